/-Part 5 of the proof of viewPiecesCard_holds:MsTYy,MsUYy,MsVYy ... No condition. -/
import Derived.Deep.Slices
import Derived.ProofKit
import Derived.OpenShut
import Derived.Lib.SmallJoins
import Derived.Lib.LaidTab
import Derived.LaidHandle
import Derived.ChangeVars
import Derived.JoinedOf
import Derived.Stop.Joined
import Derived.Test.YtaijldpbpimdlaaGreatDoorVz1
import Derived.Test.YtaijldpbpimdlaaGreatDoorVz2
import Derived.Test.YtaijldpbpimdlaaGreatDoorVz3
import Derived.Test.YtaijldpbpimdlaaGreatDoorVz4
set_option maxRecDepth 100000
namespace Go.Proofs.YtaijldpbpimdlaaGreatDoor
open Go.RowKit
open Go.BinOp (eql neq)
open _root_.BitVec (ofInt toNat)
open Go.Cell (okWide)
open _root_.Int (fdiv)
open Go.IntKind (i64 signed u32 u64 u8 wrap)
open _root_.List (getElem?_eq_getElem getElem?_map getElem?_range length length_append length_cons length_drop length_map length_nil length_take map_append map_cons map_nil mem_append mem_cons mem_cons_self mem_map mem_singleton not_mem_nil take_succ_cons take_zero)
open _root_.Nat (beq beq_refl ble le_of_ble_eq_true le_refl le_trans lt_or_ge not_lt_zero zero_le)
open _root_.Option (isSome_none isSome_some)
open Go.Proofs.Tryz (prog)
open Go.Value (oneCell')
def mE (b:Bs)(e:Int):Int:=aN 1 b e
def MV (b:Bs)(e:Int):Int:=aN 1 (ar 1 b e) (au 1 b e)
def eY (b:Bs)(e:Int):Bs:=b9 (MV b e) (ar 1 (ar 1 b e) (au 1 b e)) (au 1 (ar 1 b e) (au 1 b e))
def iK (b:Bs)(e:Int):Bs:=ar (MV b e) (ar 1 (ar 1 b e) (au 1 b e)) (au 1 (ar 1 b e) (au 1 b e))
def lz (b:Bs)(e:Int):Int:=au (MV b e) (ar 1 (ar 1 b e) (au 1 b e)) (au 1 (ar 1 b e) (au 1 b e))
def gZ:Nat→Bs→Int→List (Int × Bs)→Bs × Int × List (Int × Bs)
 | 0,b,e,acc=>(b,e,acc)
 |k+1,b,e,acc=>bif decide (bC b e>0) then gZ k (iK b e) (lz b e) (acc++ [(mE b e,eY b e)]) else (b,e,acc)
def MW (b:Bs)(e:Int):=gZ (b.length+1) b e []
def fT (p:Int × Bs):List TV:= [.val (.int .i64 p.1),.vec 1 p.2 .none]
def ou (b:Bs)(e:Int):Bs:=(MW b e).1
def ov (b:Bs)(e:Int):Int:=(MW b e).2.1
def vp (b:Bs)(e:Int):List (Int × Bs):=(MW b e).2.2
def kG (b:Bs)(e:Int):Bs:=(vp b e).map fT
def xt (b:Bs)(e:Int):Bool:=decide (ov b e=0)
def kr:Nat→Bs→Int→List (Int × Bs)→Except Int (List (Int × Bs))
 | 0,_,_,_=>.error 0
 |k+1,b,e,acc=>bif decide (bC b e>0) then (bif decide (lz b e=0) then (bif decide (mE b e=2) then (bif xt (eY b e) 0 then kr k (iK b e) (lz b e) (acc++vp (eY b e) 0) else .error 0) else .error 4) else .error 0) else .ok acc
def td (b:Bs)(e:Int):=kr (b.length+1) b e []
def gI (b:Bs)(e:Int):Bool:=match td b e with
 | .ok _=>true
 | .error _=>false
def gl (b:Bs)(e:Int):Bs:=match td b e with
 | .ok l=>l.map fT
 | .error _=> []
def jH (b:Bs)(e:Int):Int:=match td b e with
 | .ok _=>0
 | .error s=>s
abbrev CD:=68
abbrev mP:=117
abbrev mQ:=89
abbrev EI:=66
def Vo (T:VT)(n s:Nat):VT:={T with tails:= [(n,s,true)]}
def vY:List Nat:= [0,2,3,4]
def rp (L:Bs):List TV:= [.ptr 0 0,.val (.slice none 0 0),.val (.bool false),.vec 2 L (.tail 0 L.length)]
def Q4 (b bz L:Bs)(a e ez:Int)(c0:Code):Nat→Option (bW × Code):=bX [(0,gn 25 vY [(4,2)] (rp []) ⟨[aG b a e],[(0,2,true)]⟩ (λK=>∀az:Int,K .normal (aI 25 vY (rp L)) ⟨[aG bz az ez],[(L.length,2,true)]⟩ []),c0)]
def GW:be:=λro ys T K=>match ys with
 |[.ptr k 0]=>match T.objs[k]? with
  |some (.cells [.val (.bool true),.vec 1 b .none,.val (.int .i64 a),.val (.int .i64 e)])=>(ble ro k=true∧IsB b)∧∀az:Int,K (.tup [.vec 2 (kG b e) .none,.val (.bool (xt b e))]) {T with objs:=T.objs.set k (aG (ou b e) az (ov b e))}
  |_=>False
 |_=>False
def te:List Nat:= [0,2,3,4,5]
def lP (L:Bs)(s:Int):List TV:= [.ptr 0 0,.val (.slice none 0 0),.val (.int .i64 s),.val (.bool false),.vec 2 L (.tail 0 L.length)]
def LJ (L:Bs)(s:Int)(ok:Bool)(K:KX):Prop:=∀(bz Lz by':Bs) (az ez ay ey:Int),bif ok then K .normal (aI 37 te (lP L 0)) ⟨[aG bz az ez],[(L.length,2,true)]⟩ [] else K .ret (aI 37 te (lP Lz s)) ⟨[aG bz az ez,aG by' ay ey],[(Lz.length,2,true)]⟩ []
def Q5 (b L:Bs)(a e s:Int)(ok:Bool)(c0:Code):Nat→Option (bW × Code):=bX [(0,gn 37 te [(5,2)] (lP [] 0) ⟨[aG b a e],[(0,2,true)]⟩ (LJ L s ok),c0)]
def MX:be:=λro ys T K=>match ys with
 |[.ptr k 0]=>match T.objs[k]? with
  |some (.cells [.val (.bool true),.vec 1 b .none,.val (.int .i64 a),.val (.int .i64 e)])=>(ble ro k=true∧IsB b)∧∀(bz:Bs) (az ez:Int),bif gI b e then K (.tup [.vec 2 (gl b e) .none,.val (.int .i64 0),.val (.bool true)]) {T with objs:=T.objs.set k (aG bz az ez)} else K (.tup [.vec 2 [] .none,.val (.int .i64 (jH b e)),.val (.bool false)]) {T with objs:=T.objs.set k (aG bz az ez)}
  |_=>False
 |_=>False
theorem Q6 (b bz L:Bs)(a e ez:Int)(Q:TV→VT→Prop):ax prog ae (aT [(jc,lv)]) aR 300 (Q4 b bz L a e ez (aE prog mP 0)) 0 mP [.ptr 0 0] (cw (aG b a e)) Q=
 ((aE prog mP (0:Nat)=aE prog mP (0:Nat))∧
 (((@Eq (Option Nat) .none .none)∧
 ((@Eq (Nat) 0 0)∧
 ((@Eq (List Nat) [] [])∧
 (((@Eq (Option TV) (.some aO) (.some aO))∧
 True)∧
 ((@Eq (VT) ⟨[(.cells [aF,(aH b),(ah a),(ah e)])],[(0,(2,true))]⟩ ⟨[(.cells [aF,(aH b),(ah a),(ah e)])],[(0,(2,true))]⟩)∧
 ((@Eq (Bool) true true)∧
 (@Eq (List TV) [fb,aO,ak,xm] [fb,aO,ak,xm])))))))∧
 (∀az:Int,(((@Eq (Bool) true true)∧
 IsB (bz))∧
 Q (.tup [(iI L (length L)),(mB (av eql (k6 ez (0:Int))))]) ⟨[(.cells [aF,(aH bz),(ah az),(ah ez)])],[((length L),(2,true))]⟩)))):=by kernel_rfl
theorem OI (b L:Bs)(p:List TV)(a e:Int)(Q:Exit→List TV→VT→List Nat→Nat→Prop):vx prog ae (aT [(kf,m4),(iD,ly .i64 1),(jK,Ak)]) (bB [(999999,.dead,none),(20,.vec 2 (L++ [p]) (.tail 0 (L.length+1)),some λT=>Vo T (L.length+1) 2)]) 300 aU none 0 (cC prog mP 0) (aI 25 vY (rp L)) ⟨[aG b a e],[(L.length,2,true)]⟩ [] (dw vY Q)=
 (((@Eq (Bool) true true)∧
 IsB (b))∧
 (bif decide (bC b e>(0:Int))
 then (((@Eq (Bool) true true)∧
 IsB (b))∧
 (∀z:Int,(∀bz:Bs,(∀az:Int,(∀ez:Int,(((@Eq (Int) (z) (aN (1:Nat) b e))∧
 ((@Eq (Bs) (bz) (ar (↑(1:Nat):Int) b e))∧
 (@Eq (Int) (ez) (au (↑(1:Nat):Int) b e))))→(((@Eq (Bool) true true)∧
 IsB (bz))∧
 (∀z_11:Int,(∀bz_12:Bs,(∀az_13:Int,(∀ez_14:Int,(((@Eq (Int) (z_11) (aN (1:Nat) bz ez))∧
 ((@Eq (Bs) (bz_12) (ar (↑(1:Nat):Int) bz ez))∧
 (@Eq (Int) (ez_14) (au (↑(1:Nat):Int) bz ez))))→(((@Eq (Bool) true true)∧
 IsB (bz_12))∧
 (∀v:Bs,(∀bz_17:Bs,(∀az_18:Int,(∀ez_19:Int,(((@Eq (Bs) (v) (b9 z_11 bz_12 ez_14))∧
 ((@Eq (Bs) (bz_17) (ar z_11 bz_12 ez_14))∧
 (@Eq (Int) (ez_19) (au z_11 bz_12 ez_14))))→(bp prog (λ_=>.none) 0 ⟨[(.cells [aF,(aH bz_17),(ah az_18),(ah ez_19)]),(.cells [(ah z),(aH v)])],[((length L),(2,true))]⟩ (.call ⟨(.builtin .append),#[(.tmp 17),(.tmp 19)],#[67,67]⟩) [(17,(iI L (length L))),(19,(.vec 2 [[(.val (.int .i64 (z))),(.vec 1 (v) .none)]] .full))] (iI (L++ [p]) (length L+(1:Nat))) ⟨[(.cells [aF,(aH bz_17),(ah az_18),(ah ez_19)]),(.cells [(ah z),(aH v)])],[((length L+(1:Nat)),(2,true))]⟩∧
 Q .normal [fb,aO,ak,(iI (L++ [p]) (length L+(1:Nat)))] ⟨[(.cells [aF,(aH bz_17),(ah az_18),(ah ez_19)]),(.cells [(ah z),(aH v)])],[((length L+(1:Nat)),(2,true))]⟩ [] 25)))))))))))))))))))
 else Q (.exit 0) [fb,aO,ak,(iI L (length L))] ⟨[(.cells [aF,(aH b),(ah a),(ah e)])],[((length L),(2,true))]⟩ [] 25)):=by kernel_rfl
theorem Q7 (b L:Bs)(a e s:Int)(ok:Bool)(Q:TV→VT→Prop):ax prog ae bo aR 300 (Q5 b L a e s ok (aE prog mQ 0)) 0 mQ [.ptr 0 0] (cw (aG b a e)) Q=
 ((aE prog mQ (0:Nat)=aE prog mQ (0:Nat))∧
 (((@Eq (Option Nat) .none .none)∧
 ((@Eq (Nat) 0 0)∧
 ((@Eq (List Nat) [] [])∧
 (((@Eq (Option TV) (.some aO) (.some aO))∧
 True)∧
 ((@Eq (VT) ⟨[(.cells [aF,(aH b),(ah a),(ah e)])],[(0,(2,true))]⟩ ⟨[(.cells [aF,(aH b),(ah a),(ah e)])],[(0,(2,true))]⟩)∧
 ((@Eq (Bool) true true)∧
 (@Eq (List TV) MR MR)))))))∧
 (∀bz:Bs,(∀Lz:Bs,(∀by':Bs,(∀az:Int,(∀ez:Int,(∀ay:Int,(∀ey:Int,(bif ok
 then Q (.tup [(iI L (length L)),aB,aF]) ⟨[(.cells [aF,(aH bz),(ah az),(ah ez)])],[((length L),(2,true))]⟩
 else Q (.tup [aO,(ah s),ak]) ⟨[(.cells [aF,(aH bz),(ah az),(ah ez)]),(.cells [aF,(aH by'),(ah ay),(ah ey)])],[((length Lz),(2,true))]⟩)))))))))):=by kernel_rfl
theorem OJ (b L C:Bs)(a e:Int)(Q:Exit→List TV→VT→List Nat→Nat→Prop):vx prog ae (aT [(kf,m4),(iD,ly .i64 1),(GS,Bd),(jc,lv),(mP,GW)]) (bB [(999999,.dead,none),(35,.vec 2 (L++C) (.tail 0 (L.length+C.length)),some λT=>Vo T (L.length+C.length) 2)]) 300 aU none 0 (cC prog mQ 0) (aI 37 te (lP L 0)) ⟨[aG b a e],[(L.length,2,true)]⟩ [] (dw te Q)=
 (((@Eq (Bool) true true)∧
 IsB (b))∧
 (bif decide (bC b e>(0:Int))
 then (((@Eq (Bool) true true)∧
 IsB (b))∧
 (∀z:Int,(∀bz:Bs,(∀az:Int,(∀ez:Int,(((@Eq (Int) (z) (aN (1:Nat) b e))∧
 ((@Eq (Bs) (bz) (ar (↑(1:Nat):Int) b e))∧
 (@Eq (Int) (ez) (au (↑(1:Nat):Int) b e))))→(((@Eq (Bool) true true)∧
 IsB (bz))∧
 (∀z_11:Int,(∀bz_12:Bs,(∀az_13:Int,(∀ez_14:Int,(((@Eq (Int) (z_11) (aN (1:Nat) bz ez))∧
 ((@Eq (Bs) (bz_12) (ar (↑(1:Nat):Int) bz ez))∧
 (@Eq (Int) (ez_14) (au (↑(1:Nat):Int) bz ez))))→(((@Eq (Bool) true true)∧
 IsB (bz_12))∧
 (∀v:Bs,(∀bz_17:Bs,(∀az_18:Int,(∀ez_19:Int,(((@Eq (Bs) (v) (b9 z_11 bz_12 ez_14))∧
 ((@Eq (Bs) (bz_17) (ar z_11 bz_12 ez_14))∧
 (@Eq (Int) (ez_19) (au z_11 bz_12 ez_14))))→(((@Eq (Bool) true true)∧
 IsB (bz_17))∧
 (bif av neq (k6 ez_19 (0:Int))
 then Q .ret (Ba L (length L)) ⟨[(.cells [aF,(aH bz_17),(ah az_18),(ah ez_19)]),(.cells [aF,(aH v),aB,aB])],[((length L),(2,true))]⟩ [] 37
 else (bif av neq (k6 z (2:Int))
 then Q .ret [fb,aO,lb,ak,(iI L (length L))] ⟨[(.cells [aF,(aH bz_17),(ah az_18),(ah ez_19)]),(.cells [aF,(aH v),aB,aB])],[((length L),(2,true))]⟩ [] 37
 else (((@Eq (Bool) true true)∧
 IsB (v))∧
 (∀az_21:Int,(bif !xt v (0:Int)
 then Q .ret (Ba L (length L)) ⟨[(.cells [aF,(aH bz_17),(ah az_18),(ah ez_19)]),(.cells [aF,(aH (ou v (0:Int))),(ah az_21),(ah (ov v (0:Int)))])],[((length L),(2,true))]⟩ [] 37
 else (bp prog (λ_=>.none) 0 ⟨[(.cells [aF,(aH bz_17),(ah az_18),(ah ez_19)]),(.cells [aF,(aH (ou v (0:Int))),(ah az_21),(ah (ov v (0:Int)))])],[((length L),(2,true))]⟩ (.call ⟨(.builtin .append),#[(.tmp 33),(.tmp 34)],#[67,67]⟩) [(33,(iI L (length L))),(34,(ef (kG v (0:Int))))] (iI (L++C) (length L+length C)) ⟨[(.cells [aF,(aH bz_17),(ah az_18),(ah ez_19)]),(.cells [aF,(aH (ou v (0:Int))),(ah az_21),(ah (ov v (0:Int)))])],[((length L+length C),(2,true))]⟩∧
 Q .normal (Ba (L++C) (length L+length C)) ⟨[(.cells [aF,(aH bz_17),(ah az_18),(ah ez_19)]),(.cells [aF,(aH (ou v (0:Int))),(ah az_21),(ah (ov v (0:Int)))])],[((length L+length C),(2,true))]⟩ [] 37)))))))))))))))))))))))))
 else Q (.exit 0) (Ba L (length L)) ⟨[(.cells [aF,(aH b),(ah a),(ah e)])],[((length L),(2,true))]⟩ [] 37)):=by kernel_rfl
theorem IQ {b:Bs}{e:Int}(h:bC b e>0):e=0∧0<b.length:=by
 unfold bC at h
 by_cases he:e=0
 ·rw [decide_eq_true he] at h;simp only [cond_true] at h;exact ⟨he,by omega⟩
 ·rw [decide_eq_false he] at h;simp only [cond_false] at h;omega
theorem Q8 (n:Int)(b:Bs)(e:Int):(b9 n b e).length+(ar n b e).length≤b.length:=by
 unfold b9 ar;cases h:cU n b e
 ·simp only [cond_false,length_nil];omega
 ·simp only [cond_true,length_take,length_drop];omega
theorem yY {b:Bs}{e:Int}(h:bC b e>0):(ar 1 b e).length<b.length:=by
 obtain ⟨rfl,hp⟩:=IQ h
 have hk:cU 1 b 0=true:=by simp only [cU,decide_true,decide_eq_true (show (1:Int)≤b.length by omega)];rfl
 unfold ar
 rw [hk]
 simp only [cond_true,length_drop]
 omega
theorem mF {b:Bs}{e:Int}(h:bC b e>0):(eY b e).length+(iK b e).length<b.length:=by
 have h1:=yY h
 have h2:=ii (n:=1) (b:=ar 1 b e) (e:=au 1 b e)
 have h3:=Q8 (MV b e) (ar 1 (ar 1 b e) (au 1 b e)) (au 1 (ar 1 b e) (au 1 b e))
 unfold eY iK
 omega
theorem tf {b:Bs}{e:Int}(h:IsB b):IsB (eY b e):=ig (aC (aC h))
theorem tg {b:Bs}{e:Int}(h:IsB b):IsB (iK b e):=aC (aC (aC h))
theorem xu:∀(k j:Nat) (b:Bs) (e:Int) (acc:List (Int × Bs)),b.length<k→b.length<j→gZ k b e acc=gZ j b e acc
 | 0,_,_,_,_,h,_=>absurd h (not_lt_zero _)
 |_,0,_,_,_,_,h=>absurd h (not_lt_zero _)
 |k+1,j+1,b,e,acc,h1,h2=>by
  unfold gZ
  by_cases hl:bC b e>0
  ·have:=mF hl
   rw [decide_eq_true hl,xu k j (iK b e) _ _ (by omega) (by omega)]
  ·rw [decide_eq_false hl];rfl
theorem GX {b:Bs}{e:Int}{acc:List (Int × Bs)}(hl:bC b e>0):gZ (b.length+1) b e acc=gZ ((iK b e).length+1) (iK b e) (lz b e) (acc++ [(mE b e,eY b e)]):=by
 have:=mF hl
 rw [xu ((iK b e).length+1) b.length (iK b e) _ _ (by omega) (by omega)]
 simp only [gZ,decide_eq_true hl,cond_true]
theorem IR {b:Bs}{e:Int}{acc:List (Int × Bs)}(hl:¬bC b e>0):gZ (b.length+1) b e acc=(b,e,acc):=by
 simp only [gZ,decide_eq_false hl,cond_false]
def AllB (l:List (Int × Bs)):Prop:=∀p∈l,IsB p.2
theorem AllB.app {l m:List (Int × Bs)}(h:AllB l)(k:AllB m):AllB (l++m):=λp hp=>by
 rcases mem_append.1 hp with h1 | h1
 ·exact h p h1
 ·exact k p h1
theorem AllB.one {c:Int}{v:Bs}(h:IsB v):AllB [(c,v)]:=λp hp=>by obtain rfl:=mem_singleton.1 hp;exact h
theorem AllB.nil:AllB []:=λp hp=>by simp at hp
theorem CE:∀(k:Nat) (b:Bs) (e:Int) (acc:List (Int × Bs)),b.length<k→IsB b→AllB acc→IsB (gZ k b e acc).1∧AllB (gZ k b e acc).2.2∧(gZ k b e acc).2.2.length≤acc.length+b.length
 | 0,_,_,_,h,_,_=>absurd h (not_lt_zero _)
 |k+1,b,e,acc,h1,hb,ha=>by
  unfold gZ
  by_cases hl:bC b e>0
  ·have:=mF hl
   rw [decide_eq_true hl]
   obtain ⟨h2,h3,h4⟩:=CE k (iK b e) (lz b e) (acc++ [(mE b e,eY b e)]) (by omega) (tg hb) (ha.app (.one (tf hb)))
   refine ⟨h2,h3,?_⟩
   simp only [length_append,length_cons,length_nil] at h4
   simp only [cond_true]
   omega
  ·rw [decide_eq_false hl]
   exact ⟨hb,ha,Nat.le_add_right _ _⟩
theorem th {b:Bs}(e:Int)(h:IsB b):IsB (ou b e)∧AllB (vp b e)∧(vp b e).length≤b.length:=by
 obtain ⟨h1,h2,h3⟩:=CE (b.length+1) b e [] (Nat.lt_succ_self _) h .nil
 exact ⟨h1,h2,le_trans h3 (by simp)⟩
theorem ku (f g:Nat→Option Nat):∀{l:List (Int × Bs)},AllB l→br f g (l.map fT)=l.map fT
 |[],_=>rfl
 |a::l,h=>by
  have h1:=ku f g (l:=l) λp hp=>h p (List.mem_cons_of_mem _ hp)
  have h2:=(h a mem_cons_self).ren f g
  simp only [map_cons,br,h1,fT,aw,TV.ren,h2,Tok.ren]
theorem Al:∀(k j:Nat) (b:Bs) (e:Int) (acc:List (Int × Bs)),b.length<k→b.length<j→kr k b e acc=kr j b e acc
 | 0,_,_,_,_,h,_=>absurd h (not_lt_zero _)
 |_,0,_,_,_,_,h=>absurd h (not_lt_zero _)
 |k+1,j+1,b,e,acc,h1,h2=>by
  unfold kr
  by_cases hl:bC b e>0
  ·have:=mF hl
   rw [decide_eq_true hl,Al k j (iK b e) _ _ (by omega) (by omega)]
  ·rw [decide_eq_false hl];rfl
theorem IS {b:Bs}{e:Int}{acc:List (Int × Bs)}(hl:bC b e>0):kr (b.length+1) b e acc=bif decide (lz b e=0) then (bif decide (mE b e=2) then (bif xt (eY b e) 0 then kr ((iK b e).length+1) (iK b e) (lz b e) (acc++vp (eY b e) 0) else .error 0) else .error 4) else .error 0:=by
 have:=mF hl
 rw [Al ((iK b e).length+1) b.length (iK b e) _ _ (by omega) (by omega)]
 simp only [kr,decide_eq_true hl,cond_true]
theorem LK {b:Bs}{e:Int}{acc:List (Int × Bs)}(hl:¬bC b e>0):kr (b.length+1) b e acc=.ok acc:=by
 simp only [kr,decide_eq_false hl,cond_false]
def jU (b:Bs):Bool:=decide (2≤b.length)&&(decide ((b.drop 2).length≤4075)&& !decide (gU (b[0]?.getD [])=0))
def EJ (b:Bs):TV:=bif jU b then .tup [.agg [.val (.int .i64 (gU (b[0]?.getD []))),.val (.int .i64 (gU (b[1]?.getD []))),.vec 1 (b.drop 2) .none],.val (.bool true)] else .tup [.agg [.val (.int .i64 0),.val (.int .i64 0),.vec 1 [] .none],.val (.bool false)]
theorem LL:∃inf:TypeInfo,prog.info? 89=some inf∧inf.size=2∧inf.bytes+1≤1000∧inf.zero=some (.agg #[.int .i64 0,.slice none 0 0]):=
 ⟨(prog.info? 89).getD default,by kernel_rfl,by kernel_rfl,le_of_ble_eq_true (by kernel_rfl),by kernel_rfl⟩
theorem CF {ro:Nat}{T T1:VT}{s x:Operand}{l:List (Nat × TV)}{es es2:List (List TV)}{k n:Nat}{bn:Bool}(hs:cR T 2 (aA ae l s)=some (es,k,n,bn,T1))(hx:jr 2 (aA ae l x)=some es2)(hb:es.length+es2.length≤64000001):
    bp prog ae ro T (.call ⟨.builtin .append,#[s,x],#[67,67]⟩) l (.vec 2 (es++es2) (.tail k (n+es2.length))) {T1 with tails:=T1.tails.set k (n+es2.length,2,bn)}:=by
  obtain ⟨inf,i1,i2,i3,i4⟩:=LL
  have h:=fq (inf:=inf) (P:=prog) (G:=ae) (ro:=ro) (T:=T) (T1:=T1) (t:=67) (tx:=67) (s:=s) (x:=x) (l:=l) (es:=es) (es2:=es2) (k:=k) (n:=n) (bn:=bn) Tryz.underlying67 i1 i4 (by rw [i2];rfl) (by rw [i2];decide) (by kernel_rfl) (by rw [i2];exact hs) (by rw [i2];exact hx)
    (by have h1:=i3
        have h2:=Nat.mul_le_mul hb h1
        omega)
  rw [i2] at h
  exact h
structure Q9 where
 b:Bs
 a:Int
 e:Int
 acc:List (Int × Bs)
theorem IT {b0:Bs}(h0:IsB b0)(a0 e0:Int)(K:KX)(hK:∀az:Int,K .normal (aI 25 vY (rp (kG b0 e0))) ⟨[aG (ou b0 e0) az (ov b0 e0)],[((kG b0 e0).length,2,true)]⟩ []):VWx prog ae none 0 (aE prog mP 0) (aI 25 vY (rp [])) ⟨[aG b0 a0 e0],[(0,2,true)]⟩ [] K:=by
 let sl:Q9→List TV:=λs=>rp (s.acc.map fT)
 let TT:Q9→VT:=λs=>⟨[aG s.b s.a s.e],[(s.acc.length,2,true)]⟩
 let Post:Exit→List TV→VT→Prop:=λe vs T=>e=.normal∧∃az:Int,vs=rp (kG b0 e0)∧T=⟨[aG (ou b0 e0) az (ov b0 e0)],[((kG b0 e0).length,2,true)]⟩
 refine dM (f:=mP) (id:=0) (by kernel_rfl) 25 vY (λs:Q9=>s.b.length) sl TT (λs=>IsB s.b∧AllB s.acc∧s.acc.length+s.b.length≤b0.length∧gZ (s.b.length+1) s.b s.e s.acc=MW b0 e0) 1 1 (λ_ _=>⟨le_refl _,le_refl _⟩)
  Post (λs hs=> ?_) ⟨b0,a0,e0,[]⟩ ⟨h0,.nil,by simp,rfl⟩ K (λe vs T ⟨h1,az,h2,h3⟩=>by subst h1 h2 h3;exact hK az)
 obtain ⟨b,a,e,acc⟩:=s
 obtain ⟨hb,ha,hlen,hgo⟩:=hs
 have hsm:=h0.small
 simp only at hb ha hlen hgo
 have hS:bu prog ae (aT [(kf,m4),(iD,ly .i64 1),(jK,Ak)]):=aZ λp hp=>by
  rcases mem_cons.1 hp with rfl | hp;exact oq
  rcases mem_cons.1 hp with rfl | hp;exact λro ys T K h=>qo _ _ _ _ (mD h)
  obtain rfl:=mem_singleton.1 hp;exact λro ys T K h=>s9 _ _ _ _ (CC h)
 have hv:=OI b (acc.map fT) (fT (mE b e,eY b e)) a e
 rw [length_map] at hv
 refine bU ac aa hS ag (hv _) ?_
 refine ⟨⟨rfl,hb⟩,?_⟩
 by_cases hl:bC b e>0
 ·refine bd (decide_eq_true hl) ⟨⟨rfl,hb⟩,?_⟩
  rintro z bz az ez ⟨rfl,rfl,rfl⟩
  refine ⟨⟨rfl,aC hb⟩,?_⟩
  rintro z bz az ez ⟨rfl,rfl,rfl⟩
  refine ⟨⟨rfl,aC (aC hb)⟩,?_⟩
  rintro v bz az ez ⟨rfl,rfl,rfl⟩
  have hlt:=mF hl
  have hb2:=tg (e:=e) hb
  have ha2:=ha.app (.one (c:=mE b e) (tf (e:=e) hb))
  have e1:(acc++ [(mE b e,eY b e)]).map fT=acc.map fT++ [fT (mE b e,eY b e)]:=by rw [map_append];rfl
  refine ⟨?_,rfl,rfl,⟨iK b e,az,lz b e,acc++ [(mE b e,eY b e)]⟩,⟨hb2,ha2,by simp only [length_append,length_cons,length_nil];omega,by rw [←hgo];exact (GX hl).symm⟩,by simp only;omega,.inr ⟨?_,?_⟩⟩
  ·have h:=CF (ro:=0) (T:=⟨[aG (iK b e) az (lz b e),.cells (fT (mE b e,eY b e))],[(acc.length,2,true)]⟩) (T1:=⟨[aG (iK b e) az (lz b e),.cells (fT (mE b e,eY b e))],[(acc.length,2,true)]⟩) (s:=.tmp 17) (x:=.tmp 19) (l:= [(17,.vec 2 (acc.map fT) (.tail 0 acc.length)),(19,.vec 2 [fT (mE b e,eY b e)] .full)]) (es:=acc.map fT) (es2:= [fT (mE b e,eY b e)]) (k:=0) (n:=acc.length) (bn:=true)
    (by simp [aA,eF,cR]) rfl (by simp only [length_map,length_cons,length_nil];omega)
   exact h
  ·refine (show VT.keep ⟨aG (iK b e) az (lz b e)::_,_⟩ 1 1=_ from ?_)
   simp only [VT.keep,take_succ_cons,take_zero,map_cons,map_nil,bK hb2]
   simp only [TT,length_append,length_cons,length_nil]
  ·have e2:=ku (ap 1) (ap 1) ha2
   rw [e1] at e2
   simp only [aw,TV.ren,e2,Tok.ren]
   simp only [sl,rp,e1,length_append,length_map,length_cons,length_nil]
   rfl
 ·have hE:=(IR (acc:=acc) hl).symm.trans hgo
  refine bg (decide_eq_false hl) ⟨rfl,rfl,rfl,a,?_,?_⟩
  ·simp only [rp,kG,vp,←hE,length_map]
  ·simp only [ou,ov,kG,vp,←hE,length_map];rfl
theorem LM {b:Bs}(h:IsB b)(a e:Int):dy prog ae (Q4 b (ou b e) (kG b e) a e (ov b e) (aE prog mP 0)):=bO λp hp=>by
 obtain rfl:=mem_singleton.1 hp
 exact cd λK hK=>IT h a e K hK
theorem OK {b:Bs}(hb:IsB b)(a e:Int):VCx prog ae 0 mP [.ptr 0 0] ⟨[aG b a e],[]⟩ λx T'=>x=.tup [.vec 2 (kG b e) .none,.val (.bool (xt b e))]∧∃az,T'=⟨[aG (ou b e) az (ov b e)],[]⟩:=by
 obtain ⟨h1,h2,h3⟩:=th e hb
 refine VCx.keepQ 1 0 (le_refl _) (le_refl _) (aj ac aa (aZ λp hp=>by obtain rfl:=mem_singleton.1 hp;exact qp) (LM hb a e) (Q6 b (ou b e) (kG b e) a e (ov b e) _) ?_)
 refine ⟨rfl,⟨rfl,rfl,rfl,⟨rfl,trivial⟩,rfl,rfl,rfl⟩,λaz=>⟨⟨rfl,h1⟩,?_,az,gp h1 _ _ _ _⟩⟩
 have e2:br (ap 1) (ap 0) (kG b e)=kG b e:=ku _ _ h2
 simp only [TV.ren,aw,e2,Tok.ren,rZ]
 rfl
theorem OL:∀ro ys T K,GW ro ys T K→VCx prog ae ro mP ys T K:=by
 intro ro ys T K hw
 unfold GW at hw
 split at hw
 ·rename_i k
  split at hw
  ·rename_i b a e ho
   obtain ⟨⟨hro,hb⟩,hk⟩:=hw
   obtain ⟨h1,h2,h3⟩:=th e hb
   refine VCx.at1 (Q:=λx o' l'=>x=.tup [.vec 2 (kG b e) .none,.val (.bool (xt b e))]∧(∃az,o'=aG (ou b e) az (ov b e))∧l'= []) aV (le_of_ble_eq_true hro) ho rfl (bK hb a e _ _) (ys1:= [.ptr 0 0]) (by simp [aw,TV.ren,aL]) ((OK hb a e).mono λx T' ⟨h1,az,h2⟩=>⟨_,_,h2,h1,⟨az,rfl⟩,rfl⟩) ?_
   rintro x o' l' ⟨rfl,⟨az,rfl⟩,rfl⟩
   rw [bK h1]
   have e2:=ku (aJ T.objs.length [k]) (aJ T.tails.length []) h2
   simpa [TV.ren,aw,Tok.ren,kG,e2] using hk az
  ·exact hw.elim
 ·exact hw.elim
--bumped 32
structure LN where
 b:Bs
 a:Int
 e:Int
 acc:List (Int × Bs)
def EK (b0:Bs)(e0:Int)(e:Exit)(vs:List TV)(T:VT):Prop:=
 (∃(l:List (Int × Bs)) (bz:Bs) (az ez:Int),td b0 e0=.ok l∧e=.normal∧vs=lP (l.map fT) 0∧T=⟨[aG bz az ez],[(l.length,2,true)]⟩)∨
 (∃(s:Int) (Lz bz bY:Bs) (az ez ay ey:Int),td b0 e0=.error s∧e=.ret∧vs=lP Lz s∧T=⟨[aG bz az ez,aG bY ay ey],[(Lz.length,2,true)]⟩)
theorem xv {b:Bs}{e:Int}{l:List (Int × Bs)}(h:td b e=.ok l):gI b e=true∧gl b e=l.map fT:=by
 unfold gI gl;rw [h];exact ⟨rfl,rfl⟩
theorem uK {b:Bs}{e s:Int}(h:td b e=.error s):gI b e=false∧gl b e= []∧jH b e=s:=by
 unfold gI gl jH;rw [h];exact ⟨rfl,rfl,rfl⟩
theorem GY {b0:Bs}{e0:Int}{K:KX}(hK:LJ (gl b0 e0) (jH b0 e0) (gI b0 e0) K){e:Exit}{vs:List TV}{T:VT}(h:EK b0 e0 e vs T):K e (aI 37 te vs) T []:=by
 rcases h with ⟨l,bz,az,ez,h1,rfl,rfl,rfl⟩ | ⟨s,Lz,bz,bY,az,ez,ay,ey,h1,rfl,rfl,rfl⟩
 ·obtain ⟨h2,h3⟩:=xv h1
  have:=hK bz [] [] az ez 0 0
  simp only [h2,cond_true,h3,length_map] at this
  exact this
 ·obtain ⟨h2,_,h3⟩:=uK h1
  have:=hK bz Lz bY az ez ay ey
  simp only [h2,cond_false,h3] at this
  exact this
theorem IU {b0:Bs}(h0:IsB b0)(a0 e0:Int)(K:KX)(hK:LJ (gl b0 e0) (jH b0 e0) (gI b0 e0) K):VWx prog ae none 0 (aE prog mQ 0) (aI 37 te (lP [] 0)) ⟨[aG b0 a0 e0],[(0,2,true)]⟩ [] K:=by
 let sl:LN→List TV:=λs=>lP (s.acc.map fT) 0
 let TT:LN→VT:=λs=>⟨[aG s.b s.a s.e],[(s.acc.length,2,true)]⟩
 refine dM (f:=mQ) (id:=0) (by kernel_rfl) 37 te (λs:LN=>s.b.length) sl TT (λs=>IsB s.b∧AllB s.acc∧s.acc.length+s.b.length≤b0.length∧kr (s.b.length+1) s.b s.e s.acc=td b0 e0) 1 1 (λ_ _=>⟨le_refl _,le_refl _⟩)
  (EK b0 e0) (λs hs=> ?_) ⟨b0,a0,e0,[]⟩ ⟨h0,.nil,by simp,rfl⟩ K (λe vs T h=>GY hK h)
 obtain ⟨b,a,e,acc⟩:=s
 obtain ⟨hb,ha,hlen,hgo⟩:=hs
 have hsm:=h0.small
 simp only at hb ha hlen hgo
 have hS:bu prog ae (aT [(kf,m4),(iD,ly .i64 1),(GS,Bd),(jc,lv),(mP,GW)]):=aZ λp hp=>by
  rcases mem_cons.1 hp with rfl | hp;exact oq
  rcases mem_cons.1 hp with rfl | hp;exact λro ys T K h=>qo _ _ _ _ (mD h)
  rcases mem_cons.1 hp with rfl | hp;exact λro ys T K h=>QP _ _ _ _ (LI h)
  rcases mem_cons.1 hp with rfl | hp;exact qp
  obtain rfl:=mem_singleton.1 hp;exact OL
 have hv:=OJ b (acc.map fT) (kG (eY b e) 0) a e
 rw [length_map] at hv
 refine bU ac aa hS ag (hv _) ?_
 refine ⟨⟨rfl,hb⟩,?_⟩
 by_cases hl:bC b e>0
 ·refine bd (decide_eq_true hl) ⟨⟨rfl,hb⟩,?_⟩
  rintro z bz az ez ⟨rfl,rfl,rfl⟩
  refine ⟨⟨rfl,aC hb⟩,?_⟩
  rintro z bz az ez ⟨rfl,rfl,rfl⟩
  refine ⟨⟨rfl,aC (aC hb)⟩,?_⟩
  rintro v bz az ez ⟨rfl,rfl,rfl⟩
  have hlt:=mF hl
  have hb2:=tg (e:=e) hb
  have hv2:=tf (e:=e) hb
  have hst:=IS (acc:=acc) hl
  rw [hgo] at hst
  refine ⟨⟨rfl,hb2⟩,?_⟩
  by_cases hz:lz b e=0
  ·rw [decide_eq_true hz,cond_true] at hst
   refine bg (by rw [dJ];exact congrArg Bool.not (decide_eq_true hz)) ?_
   by_cases hc:mE b e=2
   ·rw [decide_eq_true hc,cond_true] at hst
    refine bg (by rw [dJ];exact congrArg Bool.not (decide_eq_true hc)) ⟨⟨rfl,hv2⟩,λay=> ?_⟩
    obtain ⟨i1,i2,i3⟩:=th 0 hv2
    cases ho:xt (eY b e) 0
    ·rw [ho,cond_false] at hst
     exact bd (congrArg Bool.not ho) ⟨rfl,rfl,.inr ⟨0,acc.map fT,_,_,_,_,_,_,hst,rfl,by simp only [lP,length_map],by rw [length_map];rfl⟩⟩
    ·rw [ho,cond_true] at hst
     have ha2:=ha.app i2
     have e1:(acc++vp (eY b e) 0).map fT=acc.map fT++kG (eY b e) 0:=by rw [map_append];rfl
     have hcl:(kG (eY b e) 0).length=(vp (eY b e) 0).length:=length_map _
     refine bg (congrArg Bool.not ho) ⟨?_,rfl,rfl,⟨iK b e,az,lz b e,acc++vp (eY b e) 0⟩,⟨hb2,ha2,by simp only [length_append];omega,by rw [hst]⟩,by simp only;omega,.inr ⟨?_,?_⟩⟩
     ·have h:=CF (ro:=0) (T:=⟨[aG (iK b e) az (lz b e),aG (ou (eY b e) 0) ay (ov (eY b e) 0)],[(acc.length,2,true)]⟩) (T1:=⟨[aG (iK b e) az (lz b e),aG (ou (eY b e) 0) ay (ov (eY b e) 0)],[(acc.length,2,true)]⟩) (s:=.tmp 33) (x:=.tmp 34) (l:= [(33,.vec 2 (acc.map fT) (.tail 0 acc.length)),(34,.vec 2 (kG (eY b e) 0) .none)]) (es:=acc.map fT) (es2:=kG (eY b e) 0) (k:=0) (n:=acc.length) (bn:=true)
       (by simp [aA,eF,cR]) rfl (by rw [hcl,length_map];omega)
      exact h
     ·refine (show VT.keep ⟨aG (iK b e) az (lz b e)::_,_⟩ 1 1=_ from ?_)
      simp only [VT.keep,take_succ_cons,take_zero,map_cons,map_nil,bK hb2]
      simp only [TT,length_append,hcl]
     ·have e2:=ku (ap 1) (ap 1) ha2
      rw [e1] at e2
      simp only [aw,TV.ren,e2,Tok.ren]
      simp only [sl,lP,e1,length_append,length_map,hcl]
      rfl
   ·rw [decide_eq_false hc,cond_false] at hst
    exact bd (by rw [dJ];exact congrArg Bool.not (decide_eq_false hc)) ⟨rfl,rfl,.inr ⟨4,acc.map fT,_,_,_,_,_,_,hst,rfl,by simp only [lP,length_map],by rw [length_map];rfl⟩⟩
  ·rw [decide_eq_false hz,cond_false] at hst
   exact bd (by rw [dJ];exact congrArg Bool.not (decide_eq_false hz)) ⟨rfl,rfl,.inr ⟨0,acc.map fT,_,_,_,_,_,_,hst,rfl,by simp only [lP,length_map],by rw [length_map];rfl⟩⟩
 ·have hE:=(LK (acc:=acc) hl).symm.trans hgo
  exact bg (decide_eq_false hl) ⟨rfl,rfl,.inl ⟨acc,b,a,e,hE.symm,rfl,by simp only [lP,length_map],rfl⟩⟩
theorem LO {b:Bs}(h:IsB b)(a e:Int):dy prog ae (Q5 b (gl b e) a e (jH b e) (gI b e) (aE prog mQ 0)):=bO λp hp=>by
 obtain rfl:=mem_singleton.1 hp
 exact cd λK hK=>IU h a e K hK
theorem yZ:∀(k:Nat) (b:Bs) (e:Int) (acc:List (Int × Bs)),IsB b→AllB acc→∀l,kr k b e acc=.ok l→AllB l
 | 0,_,_,_,_,_,l,h=>by cases h
 |k+1,b,e,acc,hb,ha,l,h=>by
  unfold kr at h
  cases h1:decide (bC b e>0)<;>rw [h1] at h
  ·injection h with h;subst h;exact ha
  ·cases h2:decide (lz b e=0)<;>rw [h2] at h
   ·cases h
   ·cases h3:decide (mE b e=2)<;>rw [h3] at h
    ·cases h
    ·cases h4:xt (eY b e) 0<;>rw [h4] at h
     ·cases h
     ·exact yZ k _ _ _ (tg hb) (ha.app (th 0 (tf hb)).2.1) l h
theorem y7 {b:Bs}(hb:IsB b)(e:Int)(f g:Nat→Option Nat):br f g (gl b e)=gl b e:=by
 cases h:td b e with
 |ok l=>rw [(xv h).2];exact ku f g (yZ _ _ _ _ hb .nil l h)
 |error s=>rw [(uK h).2.1];rfl
theorem EL {b:Bs}{e:Int}(h:gI b e=false):gl b e= []:=by
 cases hc:td b e with
 |ok l=>rw [(xv hc).1] at h;cases h
 |error s=>exact (uK hc).2.1
def IV (b:Bs)(e:Int):TV:=.tup [.vec 2 (gl b e) .none,.val (.int .i64 (bif gI b e then 0 else jH b e)),.val (.bool (gI b e))]
theorem OM {b:Bs}(hb:IsB b)(a e:Int):VCx prog ae 0 mQ [.ptr 0 0] ⟨[aG b a e],[]⟩ λx T'=>x=IV b e∧∃bz az ez,T'=⟨[aG bz az ez],[]⟩:=by
 refine VCx.toLe (Q:=λT'=>∃bz az ez,T'=⟨[aG bz az ez],[]⟩) (VCx.keepQ 1 0 (le_refl _) (le_refl _) (aj ac aa ai (LO hb a e) (Q7 b (gl b e) a e (jH b e) (gI b e) _) ?_))
 refine ⟨rfl,⟨rfl,rfl,rfl,⟨rfl,trivial⟩,rfl,rfl,rfl⟩,λbz Lz bY az ez ay ey=> ?_⟩
 cases h:gI b e
 ·refine ⟨?_,_,az,ez,rfl⟩
  unfold IV
  rw [EL h,h]
  exact TVle.tup ⟨TVle.nil 2,TVle.refl _,TVle.refl _,trivial⟩
 ·refine ⟨TVle.of_eq ?_,_,az,ez,rfl⟩
  unfold IV
  rw [h]
  simp only [TV.ren,aw,y7 hb e,Tok.ren,cond_true]
  rfl
theorem Ra:∀ro ys T K,MX ro ys T K→VCx prog ae ro mQ ys T K:=by
 intro ro ys T K hw
 unfold MX at hw
 split at hw
 ·rename_i k
  split at hw
  ·rename_i b a e ho
   obtain ⟨⟨hro,hb⟩,hk⟩:=hw
   refine VCx.at1 (Q:=λx o' l'=>x=IV b e∧(∃bz az ez,o'=aG bz az ez)∧l'= []) aV (le_of_ble_eq_true hro) ho rfl (bK hb a e _ _) (ys1:= [.ptr 0 0]) (by simp [aw,TV.ren,aL]) ((OM hb a e).mono λx T' ⟨h1,bz,az,ez,h2⟩=>⟨_,_,h2,h1,⟨bz,az,ez,rfl⟩,rfl⟩) ?_
   rintro x o' l' ⟨rfl,⟨bz,az,ez,rfl⟩,rfl⟩
   have hk2:=hk (br (aJ T.objs.length [k]) (aJ T.tails.length []) bz) az ez
   have e2:=y7 hb e (aJ T.objs.length [k]) (aJ T.tails.length [])
   unfold IV
   cases h:gI b e<;>rw [h] at hk2
   ·rw [EL h]
    simp only [map_nil,List.append_nil,TV.ren,aw,cond_false]
    exact hk2
   ·simp only [map_nil,List.append_nil,TV.ren,aw,cond_true,e2,Tok.ren]
    exact hk2
  ·exact hw.elim
 ·exact hw.elim
def dN (s:Int)(d:Bs):TV:=.tup [.agg [.val (.int .i64 0),.val (.int .i64 0),.val (.int .u32 0),.vec 2 [] .none],.agg [.val (.int .i64 2),.val (.int .i64 s),.vec 1 d .none]]
def qr (n h i:Int)(l:Bs):TV:=.tup [.agg [.val (.int .i64 n),.val (.int .i64 h),.val (.int .u32 i),.vec 2 l .none],.agg [.val (.int .i64 0),.val (.int .i64 0),.vec 1 [] .none]]
def fU (n h i k:Int)(b:Bs)(e pas:Int):TV:=
 if n=0 then dN 2 [] else if pas≥1∧¬n=pas then dN 2 [] else if ¬(h=0∨(h≥3∧h≤65535)) then dN 6 [] else if i=0 then dN 3 []
 else if ¬k=bC b e then dN 0 [] else bif gI b e then qr n h i (gl b e) else dN (jH b e) []
def xw (b:Bs)(e pas:Int):TV:=
 fU (aN 2 b e) (aN 2 (ar 2 b e) (au 2 b e)) (aN 4 (ar 2 (ar 2 b e) (au 2 b e)) (au 2 (ar 2 b e) (au 2 b e)))
  (aN 1 (ar 4 (ar 2 (ar 2 b e) (au 2 b e)) (au 2 (ar 2 b e) (au 2 b e))) (au 4 (ar 2 (ar 2 b e) (au 2 b e)) (au 2 (ar 2 b e) (au 2 b e))))
  (ar 1 (ar 4 (ar 2 (ar 2 b e) (au 2 b e)) (au 2 (ar 2 b e) (au 2 b e))) (au 4 (ar 2 (ar 2 b e) (au 2 b e)) (au 2 (ar 2 b e) (au 2 b e))))
  (au 1 (ar 4 (ar 2 (ar 2 b e) (au 2 b e)) (au 2 (ar 2 b e) (au 2 b e))) (au 4 (ar 2 (ar 2 b e) (au 2 b e)) (au 2 (ar 2 b e) (au 2 b e)))) pas
def jV (b:Bs)(pas:Int):TV:=if b.length<10 then dN 0 [] else if ¬aN 1 b 0=4 then dN 1 [bT 0,bT 4] else xw (ar 1 b 0) (au 1 b 0) pas
theorem dg (s:Int):TVle (.tup [.agg [.val (.int .i64 0),.val (.int .i64 0),.val (.int .u32 0),.val (.slice none 0 0)],.agg [.val (.int .i64 2),.val (.int .i64 s),.val (.slice none 0 0)]]) (dN s []):=
 .tup ⟨.agg ⟨.refl _,.refl _,.refl _,.nil 2,trivial⟩,.agg ⟨.refl _,.refl _,.nil 1,trivial⟩,trivial⟩
theorem LP (tok:Tok):TVle (.tup [.agg [.val (.int .i64 0),.val (.int .i64 0),.val (.int .u32 0),.val (.slice none 0 0)],.agg [.val (.int .i64 2),.val (.int .i64 1),.vec 1 [bT 0,bT 4] tok]]) (dN 1 [bT 0,bT 4]):=
 .tup ⟨.agg ⟨.refl _,.refl _,.refl _,.nil 2,trivial⟩,.agg ⟨.refl _,.refl _,.vec 1 _ _,trivial⟩,trivial⟩
theorem uL (n h i:Int)(l:Bs)(tok:Tok):TVle (.tup [.agg [.val (.int .i64 n),.val (.int .i64 h),.val (.int .u32 i),.vec 2 l tok],.agg [.val (.int .i64 0),.val (.int .i64 0),.val (.slice none 0 0)]]) (qr n h i l):=
 .tup ⟨.agg ⟨.refl _,.refl _,.refl _,.vec 2 _ _,trivial⟩,.agg ⟨.refl _,.refl _,.nil 1,trivial⟩,trivial⟩
theorem dI {q:IntKind}{x y:Int}(h:av eql (aq (.int q x) (.int q y))=true):x=y:=by rw [rZ] at h;exact of_decide_eq_true h
theorem dl {q:IntKind}{x y:Int}(h:av eql (aq (.int q x) (.int q y))=false):¬x=y:=by rw [rZ] at h;exact of_decide_eq_false h
theorem fe {q:IntKind}{x y:Int}(h:av neq (aq (.int q x) (.int q y))=true):¬x=y:=by rw [dJ] at h;exact of_decide_eq_false (by simpa using h)
theorem fg {q:IntKind}{x y:Int}(h:av neq (aq (.int q x) (.int q y))=false):x=y:=by rw [dJ] at h;exact of_decide_eq_true (by simpa using h)
section
variable {n h i k:Int}{b:Bs}{e pas:Int}
theorem Ut (h1:n=0):fU n h i k b e pas=dN 2 []:=by unfold fU;rw [if_pos h1]
theorem Uu (h1:¬n=0)(h2:pas≥1)(h3:¬n=pas):fU n h i k b e pas=dN 2 []:=by unfold fU;rw [if_neg h1,if_pos ⟨h2,h3⟩]
theorem Be (h1:¬n=0)(h2:¬(pas≥1∧¬n=pas))(h3:¬(h=0∨(h≥3∧h≤65535))):fU n h i k b e pas=dN 6 []:=by unfold fU;rw [if_neg h1,if_neg h2,if_pos h3]
theorem Bf (h1:¬n=0)(h2:¬(pas≥1∧¬n=pas))(h3:h=0∨(h≥3∧h≤65535))(h4:i=0):fU n h i k b e pas=dN 3 []:=by unfold fU;rw [if_neg h1,if_neg h2,if_neg (λc=>c h3),if_pos h4]
theorem Bg (h1:¬n=0)(h2:¬(pas≥1∧¬n=pas))(h3:h=0∨(h≥3∧h≤65535))(h4:¬i=0)(h5:¬k=bC b e):fU n h i k b e pas=dN 0 []:=by unfold fU;rw [if_neg h1,if_neg h2,if_neg (λc=>c h3),if_neg h4,if_pos h5]
theorem Bh (h1:¬n=0)(h2:¬(pas≥1∧¬n=pas))(h3:h=0∨(h≥3∧h≤65535))(h4:¬i=0)(h5:k=bC b e):fU n h i k b e pas=bif gI b e then qr n h i (gl b e) else dN (jH b e) []:=by unfold fU;rw [if_neg h1,if_neg h2,if_neg (λc=>c h3),if_neg h4,if_neg (λc=>c h5)]
end
def o1 (B:Bs):Bs:=ar (1:Nat) B 0
def g1 (B:Bs):Int:=au (1:Nat) B 0
def o2 (B:Bs):Bs:=ar (2:Nat) (o1 B) (g1 B)
def g2 (B:Bs):Int:=au (2:Nat) (o1 B) (g1 B)
def o3 (B:Bs):Bs:=ar (2:Nat) (o2 B) (g2 B)
def g3 (B:Bs):Int:=au (2:Nat) (o2 B) (g2 B)
def o4 (B:Bs):Bs:=ar (4:Nat) (o3 B) (g3 B)
def g4 (B:Bs):Int:=au (4:Nat) (o3 B) (g3 B)
def o5 (B:Bs):Bs:=ar (1:Nat) (o4 B) (g4 B)
def g5 (B:Bs):Int:=au (1:Nat) (o4 B) (g4 B)
abbrev ti:=120
def z7:VO:=.cells [.val (.int .i64 0),.val (.int .i64 0),.val (.slice none 0 0)]
def f7 (s:Int):VO:=.cells [.val (.int .i64 3),.val (.int .i64 s),.val (.slice none 0 0)]
abbrev bq:=List (Nat × Nat × Bool)
def Am:List Nat:= [2,3,4,5]
def qt (L:Bs):List TV:= [.val (.slice none 0 0),.ptr 0 0,.ptr 1 0,.vec 3 L (.tail 0 L.length)]
def MY (N:Nat)(O:Bs→Int→Int→VO)(L:Bs)(ok:Bool)(K:KX):Prop:=bif ok then (∀(bz:Bs) (az ez:Int),K .normal (aI N Am (qt L)) ⟨[z7,O bz az ez],[(L.length,3,true)]⟩ []) else ∀(rest:List VO) (tlz:bq) (Lz:Bs),K .ret (aI N Am (qt Lz)) ⟨f7 1::rest,tlz⟩ []
def Vp (N:Nat)(O:Bs→Int→Int→VO)(b L:Bs)(ok:Bool)(c0:Code):Nat→Option (bW × Code):=bX [(0,gn N Am [(5,3)] (qt []) ⟨[z7,O b 0 0],[(0,3,true)]⟩ (MY N O L ok),c0)]
theorem Uv (b L:Bs)(ok:Bool)(Q:TV→VT→Prop):ax prog ae (aT [(ke,mA)]) aR 300 (Vp 41 aG b L ok (aE prog ti 0)) 0 ti [.vec 1 b .none] aD Q=
 (IsB (b)∧
 ((aE prog ti (0:Nat)=aE prog ti (0:Nat))∧
 (((@Eq (Option Nat) .none .none)∧
 ((@Eq (Nat) 0 0)∧
 ((@Eq (List Nat) [] [])∧
 (((@Eq (Option TV) (.some aO) (.some aO))∧
 True)∧
 ((@Eq (VT) ⟨[cA,(.cells [aF,(aH b),aB,aB])],[(0,(3,true))]⟩ ⟨[cA,(.cells [aF,(aH b),aB,aB])],[(0,(3,true))]⟩)∧
 ((@Eq (Bool) true true)∧
 (@Eq (List TV) [aO,fb,lO,(.vec 3 [] (.tail 0 0))] [aO,fb,lO,(.vec 3 [] (.tail 0 0))])))))))∧
 (bif ok
 then (∀bz:Bs,(∀az:Int,(∀ez:Int,Q (.tup [(uE L (length L)),lN]) ⟨[cA,(.cells [aF,(aH bz),(ah az),(ah ez)])],[((length L),(3,true))]⟩)))
 else (∀rest:List VO,(∀tlz:bq,(∀Lz:Bs,Q (.tup [aO,MQ]) ⟨[(.cells [(.val (.int .i64 3)),(.val (.int .i64 1)),(.val (.slice .none 0 0))])]++rest,tlz⟩))))))):=by kernel_rfl
theorem Rb (b L:Bs)(p:List TV)(a:Int)(Q:Exit→List TV→VT→List Nat→Nat→Prop):vx prog ae (aT [(kf,m4),(iD,ly .i64 1),(mn,ly .i64 2),(jK,Ak),(jc,lv)]) (bB [(999999,.dead,none),(38,.vec 3 (L++ [p]) (.tail 0 (L.length+1)),some λT=>{T with tails:= [(L.length+1,3,true)]})]) 300 aU none 0 (cC prog ti 0) (aI 41 Am (qt L)) ⟨[z7,aG b a 0],[(L.length,3,true)]⟩ [] (dw Am Q)=
 (((@Eq (Bool) true true)∧
 IsB (b))∧
 (bif decide (bC b (0:Int)>(0:Int))
 then (((@Eq (Bool) true true)∧
 IsB (b))∧
 (∀z:Int,(∀bz:Bs,(∀az:Int,(∀ez:Int,(((@Eq (Int) (z) (aN (1:Nat) b (0:Int)))∧
 ((@Eq (Bs) (bz) (ar (↑(1:Nat):Int) b (0:Int)))∧
 (@Eq (Int) (ez) (au (↑(1:Nat):Int) b (0:Int)))))→(((@Eq (Bool) true true)∧
 IsB (bz))∧
 (∀z_10:Int,(∀bz_11:Bs,(∀az_12:Int,(∀ez_13:Int,(((@Eq (Int) (z_10) (aN (1:Nat) bz ez))∧
 ((@Eq (Bs) (bz_11) (ar (↑(1:Nat):Int) bz ez))∧
 (@Eq (Int) (ez_13) (au (↑(1:Nat):Int) bz ez))))→(bif av neq (k6 (wrap i64 (↑(toNat (ofInt (IntKind.bits i64) z&&&ofInt (IntKind.bits i64) (16:Int))):Int)) (0:Int))
 then (((@Eq (Bool) true true)∧
 IsB (bz_11))∧
 (∀z_15:Int,(∀bz_16:Bs,(∀az_17:Int,(∀ez_18:Int,(((@Eq (Int) (z_15) (aN (2:Nat) bz_11 ez_13))∧
 ((@Eq (Bs) (bz_16) (ar (↑(2:Nat):Int) bz_11 ez_13))∧
 (@Eq (Int) (ez_18) (au (↑(2:Nat):Int) bz_11 ez_13))))→(((@Eq (Bool) true true)∧
 IsB (bz_16))∧
 (∀v:Bs,(∀bz_21:Bs,(∀az_22:Int,(∀ez_23:Int,(((@Eq (Bs) (v) (b9 z_15 bz_16 ez_18))∧
 ((@Eq (Bs) (bz_21) (ar z_15 bz_16 ez_18))∧
 (@Eq (Int) (ez_23) (au z_15 bz_16 ez_18))))→(((@Eq (Bool) true true)∧
 IsB (bz_21))∧
 (bif av neq (k6 ez_23 (0:Int))
 then Q .ret (xk L (length L)) ⟨[xj,(.cells [aF,(aH bz_21),(ah az_22),(ah ez_23)]),(jG z z_10 v)],[((length L),(3,true))]⟩ [] 41
 else (bp prog (λ_=>.none) 0 ⟨[cA,(.cells [aF,(aH bz_21),(ah az_22),(ah ez_23)]),(jG z z_10 v)],[((length L),(3,true))]⟩ (.call ⟨(.builtin .append),#[(.tmp 35),(.tmp 37)],#[202,202]⟩) [(35,(uE L (length L))),(37,(.vec 3 [[(.val (.int .i64 (z))),(.val (.int .i64 (z_10))),(.vec 1 (v) .none)]] .full))] (uE (L++ [p]) (length L+(1:Nat))) ⟨[cA,(.cells [aF,(aH bz_21),(ah az_22),(ah ez_23)]),(jG z z_10 v)],[((length L+(1:Nat)),(3,true))]⟩∧
 Q .normal (xk (L++ [p]) (length L+(1:Nat))) ⟨[cA,(.cells [aF,(aH bz_21),(ah az_22),(ah ez_23)]),(jG z z_10 v)],[((length L+(1:Nat)),(3,true))]⟩ [] 41)))))))))))))))
 else (((@Eq (Bool) true true)∧
 IsB (bz_11))∧
 (∀z_15:Int,(∀bz_16:Bs,(∀az_17:Int,(∀ez_18:Int,(((@Eq (Int) (z_15) (aN (1:Nat) bz_11 ez_13))∧
 ((@Eq (Bs) (bz_16) (ar (↑(1:Nat):Int) bz_11 ez_13))∧
 (@Eq (Int) (ez_18) (au (↑(1:Nat):Int) bz_11 ez_13))))→(((@Eq (Bool) true true)∧
 IsB (bz_16))∧
 (∀v:Bs,(∀bz_21:Bs,(∀az_22:Int,(∀ez_23:Int,(((@Eq (Bs) (v) (b9 z_15 bz_16 ez_18))∧
 ((@Eq (Bs) (bz_21) (ar z_15 bz_16 ez_18))∧
 (@Eq (Int) (ez_23) (au z_15 bz_16 ez_18))))→(((@Eq (Bool) true true)∧
 IsB (bz_21))∧
 (bif av neq (k6 ez_23 (0:Int))
 then Q .ret (xk L (length L)) ⟨[xj,(.cells [aF,(aH bz_21),(ah az_22),(ah ez_23)]),(jG z z_10 v)],[((length L),(3,true))]⟩ [] 41
 else (bp prog (λ_=>.none) 0 ⟨[cA,(.cells [aF,(aH bz_21),(ah az_22),(ah ez_23)]),(jG z z_10 v)],[((length L),(3,true))]⟩ (.call ⟨(.builtin .append),#[(.tmp 35),(.tmp 37)],#[202,202]⟩) [(35,(uE L (length L))),(37,(.vec 3 [[(.val (.int .i64 (z))),(.val (.int .i64 (z_10))),(.vec 1 (v) .none)]] .full))] (uE (L++ [p]) (length L+(1:Nat))) ⟨[cA,(.cells [aF,(aH bz_21),(ah az_22),(ah ez_23)]),(jG z z_10 v)],[((length L+(1:Nat)),(3,true))]⟩∧
 Q .normal (xk (L++ [p]) (length L+(1:Nat))) ⟨[cA,(.cells [aF,(aH bz_21),(ah az_22),(ah ez_23)]),(jG z z_10 v)],[((length L+(1:Nat)),(3,true))]⟩ [] 41))))))))))))))))))))))))))))
 else Q (.exit 0) (xk L (length L)) ⟨[cA,(.cells [aF,(aH b),(ah a),aB])],[((length L),(3,true))]⟩ [] 41)):=by kernel_rfl
def ow (z:Int):Bool:=av neq (aq (Value.int i64 (wrap i64 (toNat (ofInt (IntKind.bits i64) z&&&ofInt (IntKind.bits i64) (16:Int)):Nat))) (Value.int i64 (0:Int)))
def ij (b:Bs):Int:=aN 1 b 0
def vq (b:Bs):Nat:=bif ow (ij b) then 2 else 1
def kH (b:Bs):Int:=aN 1 (ar 1 b 0) (au 1 b 0)
def tj (b:Bs):Bs:=ar 1 (ar 1 b 0) (au 1 b 0)
def y8 (b:Bs):Int:=au 1 (ar 1 b 0) (au 1 b 0)
def CG (b:Bs):Int:=aN (vq b) (tj b) (y8 b)
def vZ (b:Bs):Bs:=ar (vq b) (tj b) (y8 b)
def CH (b:Bs):Int:=au (vq b) (tj b) (y8 b)
def jd (b:Bs):Bs:=b9 (CG b) (vZ b) (CH b)
def lA (b:Bs):Bs:=ar (CG b) (vZ b) (CH b)
def xx (b:Bs):Int:=au (CG b) (vZ b) (CH b)
abbrev ik:=Int × Int × Bs
def g6:Nat→Bs→List ik→Option (List ik)
 | 0,_,_=>none
 |k+1,b,acc=>bif decide (bC b 0>0) then (bif decide (xx b=0) then g6 k (lA b) (acc++ [(ij b,kH b,jd b)]) else none) else some acc
def xy (b:Bs):Option (List ik):=g6 (b.length+1) b []
def fV (p:ik):List TV:= [.val (.int .i64 p.1),.val (.int .i64 p.2.1),.vec 1 p.2.2 .none]
def il (b:Bs):List ik:=(xy b).getD []
def eZ (b:Bs):Bs:=(il b).map fV
def jW (b:Bs):Bool:=(xy b).isSome
def vt (b:Bs):TV:=.tup [.vec 3 (eZ b) .none,.agg [.val (.int .i64 (bif jW b then 0 else 3)),.val (.int .i64 (bif jW b then 0 else 1)),.vec 1 [] .none]]
def All3 (l:List ik):Prop:=∀p∈l,IsB p.2.2
theorem All3.nil:All3 []:=λp hp=>by simp at hp
theorem All3.snoc {l:List ik}(h:All3 l){c t:Int}{v:Bs}(hv:IsB v):All3 (l++ [(c,t,v)]):=λp hp=>by
 rcases mem_append.1 hp with h1 | h1
 ·exact h p h1
 ·obtain rfl:=mem_singleton.1 h1;exact hv
theorem rq (f g:Nat→Option Nat):∀{l:List ik},All3 l→br f g (l.map fV)=l.map fV
 |[],_=>rfl
 |a::l,h=>by
  have h1:=rq f g (l:=l) λp hp=>h p (List.mem_cons_of_mem _ hp)
  have h2:=(h a mem_cons_self).ren f g
  simp only [map_cons,br,h1,fV,aw,TV.ren,h2,Tok.ren]
theorem xz {b:Bs}(h:IsB b):IsB (jd b):=ig (aC (aC (aC h)))
theorem IW {b:Bs}(h:IsB b):IsB (lA b):=aC (aC (aC (aC h)))
theorem xA {b:Bs}(h:bC b 0>0):(lA b).length<b.length:=by
 have h1:=yY h
 have h2:=ii (n:=1) (b:=ar 1 b 0) (e:=au 1 b 0)
 have h3:=ii (n:=vq b) (b:=tj b) (e:=y8 b)
 have h4:=ii (n:=CG b) (b:=vZ b) (e:=CH b)
 unfold lA
 unfold tj at h3
 unfold vZ tj at h4
 unfold vZ tj
 omega
theorem An:∀(k j:Nat) (b:Bs) (acc:List ik),b.length<k→b.length<j→g6 k b acc=g6 j b acc
 | 0,_,_,_,h,_=>absurd h (not_lt_zero _)
 |_,0,_,_,_,h=>absurd h (not_lt_zero _)
 |k+1,j+1,b,acc,h1,h2=>by
  unfold g6
  by_cases hl:bC b 0>0
  ·have:=xA hl
   rw [decide_eq_true hl,An k j (lA b) _ (by omega) (by omega)]
  ·rw [decide_eq_false hl];rfl
theorem Ao {b:Bs}{acc:List ik}(hl:bC b 0>0)(hz:xx b=0):g6 (b.length+1) b acc=g6 ((lA b).length+1) (lA b) (acc++ [(ij b,kH b,jd b)]):=by
 have:=xA hl
 rw [An ((lA b).length+1) b.length (lA b) _ (by omega) (by omega)]
 simp only [g6,decide_eq_true hl,decide_eq_true hz,cond_true]
theorem CI {b:Bs}{acc:List ik}(hl:bC b 0>0)(hz:¬xx b=0):g6 (b.length+1) b acc=none:=by
 simp only [g6,decide_eq_true hl,decide_eq_false hz,cond_true,cond_false]
theorem LQ {b:Bs}{acc:List ik}(hl:¬bC b 0>0):g6 (b.length+1) b acc=some acc:=by
 simp only [g6,decide_eq_false hl,cond_false]
theorem EM:∀(k:Nat) (b:Bs) (acc:List ik),IsB b→All3 acc→∀l,g6 k b acc=some l→All3 l
 | 0,_,_,_,_,l,h=>by cases h
 |k+1,b,acc,hb,ha,l,h=>by
  unfold g6 at h
  cases h1:decide (bC b 0>0)<;>rw [h1] at h
  ·injection h with h;subst h;exact ha
  ·cases h2:decide (xx b=0)<;>rw [h2] at h
   ·cases h
   ·exact EM k _ _ (IW hb) (ha.snoc (xz hb)) l h
theorem Rc {b:Bs}(hb:IsB b):All3 (il b):=by
 unfold il
 cases h:xy b with
 |none=>exact .nil
 |some l=>exact EM _ _ _ hb .nil l h
theorem IX {b:Bs}{k:Nat}(hk:vq b=k){z ez z2 e2 z3 e3 e4:Int}{bz b2 b3 v b4:Bs}(h1:z=aN (1:Nat) b 0∧bz=ar (1:Nat) b 0∧ez=au (1:Nat) b 0)(h2:z2=aN (1:Nat) bz ez∧b2=ar (1:Nat) bz ez∧e2=au (1:Nat) bz ez)(h3:z3=aN k b2 e2∧b3=ar k b2 e2∧e3=au k b2 e2)(h4:v=b9 z3 b3 e3∧b4=ar z3 b3 e3∧e4=au z3 b3 e3):
  z=ij b∧z2=kH b∧v=jd b∧b4=lA b∧e4=xx b:=by
 obtain ⟨rfl,rfl,rfl⟩:=h1
 obtain ⟨rfl,rfl,rfl⟩:=h2
 subst hk
 obtain ⟨rfl,rfl,rfl⟩:=h3
 obtain ⟨rfl,rfl,rfl⟩:=h4
 exact ⟨rfl,rfl,rfl,rfl,rfl⟩
theorem CJ:∃inf:TypeInfo,prog.info? 207=some inf∧inf.size=3∧inf.bytes+1≤1000∧inf.zero=some (.agg #[.int .i64 0,.int .i64 0,.slice none 0 0]):=
 ⟨(prog.info? 207).getD default,by kernel_rfl,by kernel_rfl,le_of_ble_eq_true (by kernel_rfl),by kernel_rfl⟩
theorem CL {ro:Nat}{T T1:VT}{s x:Operand}{l:List (Nat × TV)}{es es2:List (List TV)}{k n:Nat}{bn:Bool}(hs:cR T 3 (aA ae l s)=some (es,k,n,bn,T1))(hx:jr 3 (aA ae l x)=some es2)(hb:es.length+es2.length≤64000001):
    bp prog ae ro T (.call ⟨.builtin .append,#[s,x],#[202,202]⟩) l (.vec 3 (es++es2) (.tail k (n+es2.length))) {T1 with tails:=T1.tails.set k (n+es2.length,3,bn)}:=by
  obtain ⟨inf,i1,i2,i3,i4⟩:=CJ
  have h:=fq (inf:=inf) (P:=prog) (G:=ae) (ro:=ro) (T:=T) (T1:=T1) (t:=202) (tx:=202) (s:=s) (x:=x) (l:=l) (es:=es) (es2:=es2) (k:=k) (n:=n) (bn:=bn) Tryz.underlying202 i1 i4 (by rw [i2];rfl) (by rw [i2];decide) (by kernel_rfl) (by rw [i2];exact hs) (by rw [i2];exact hx)
    (by have h1:=i3
        have h2:=Nat.mul_le_mul hb h1
        omega)
  rw [i2] at h
  exact h
def IY (N:Nat)(O:Bs→Int→Int→VO)(b0:Bs)(ex:Exit)(vs:List TV)(T:VT):Prop:=
 (∃(l:List ik) (bz:Bs) (az ez:Int),xy b0=some l∧ex=.normal∧vs=qt (l.map fV)∧T=⟨[z7,O bz az ez],[(l.length,3,true)]⟩)∨
 (∃(rest:List VO) (tlz:bq) (Lz:Bs),xy b0=none∧ex=.ret∧vs=qt Lz∧T=⟨f7 1::rest,tlz⟩)
theorem IZ {N:Nat}{O:Bs→Int→Int→VO}{b0:Bs}{K:KX}(hK:MY N O (eZ b0) (jW b0) K){ex:Exit}{vs:List TV}{T:VT}(h:IY N O b0 ex vs T):K ex (aI N Am vs) T []:=by
 unfold MY at hK
 rcases h with ⟨l,bz,az,ez,h1,rfl,rfl,rfl⟩ | ⟨rest,tlz,Lz,h1,rfl,rfl,rfl⟩
 ·simp only [jW,h1,isSome_some,cond_true,eZ,il,Option.getD_some,length_map] at hK
  exact hK bz az ez
 ·simp only [jW,h1,isSome_none,cond_false] at hK
  exact hK rest tlz Lz
theorem LR {b0:Bs}(h0:IsB b0)(K:KX)(hK:MY 41 aG (eZ b0) (jW b0) K):VWx prog ae none 0 (aE prog ti 0) (aI 41 Am (qt [])) ⟨[z7,aG b0 0 0],[(0,3,true)]⟩ [] K:=by
 let sl:Bs × Int × List ik→List TV:=λs=>qt (s.2.2.map fV)
 let TT:Bs × Int × List ik→VT:=λs=>⟨[z7,aG s.1 s.2.1 0],[(s.2.2.length,3,true)]⟩
 refine dM (f:=ti) (id:=0) (by kernel_rfl) 41 Am (λs:Bs × Int × List ik=>s.1.length) sl TT (λs=>IsB s.1∧All3 s.2.2∧s.2.2.length+s.1.length≤b0.length∧g6 (s.1.length+1) s.1 s.2.2=xy b0) 2 1 (λ_ _=>⟨le_refl _,le_refl _⟩)
  (IY 41 aG b0) (λs hs=> ?_) ⟨b0,0,[]⟩ ⟨h0,.nil,by simp,rfl⟩ K (λex vs T h=>IZ hK h)
 obtain ⟨b,a,acc⟩:=s
 obtain ⟨hrem,ha,hlen,hgo⟩:=hs
 have hsm:=h0.small
 simp only at hrem ha hlen hgo
 have hS:bu prog ae (aT [(kf,m4),(iD,ly .i64 1),(mn,ly .i64 2),(jK,Ak),(jc,lv)]):=aZ λp hp=>by
  rcases mem_cons.1 hp with rfl | hp;exact oq
  rcases mem_cons.1 hp with rfl | hp;exact λro ys T K h=>qo _ _ _ _ (mD h)
  rcases mem_cons.1 hp with rfl | hp;exact λro ys T K h=>uI _ _ _ _ (mD h)
  rcases mem_cons.1 hp with rfl | hp;exact λro ys T K h=>s9 _ _ _ _ (CC h)
  obtain rfl:=mem_singleton.1 hp;exact qp
 have hv:=Rb b (acc.map fV) (fV (ij b,kH b,jd b)) a
 rw [length_map] at hv
 refine bU ac aa hS ag (hv _) ?_
 refine ⟨⟨rfl,hrem⟩,?_⟩
 by_cases hl:bC b 0>0
 ·have hlt:=xA hl
  refine bd (decide_eq_true hl) ⟨⟨rfl,hrem⟩,?_⟩
  intro z bz az ez hq1
  have hbz:IsB bz:=by rw [hq1.2.1];exact aC hrem
  refine ⟨⟨rfl,hbz⟩,?_⟩
  intro z2 b2 a2 e2 hq2
  have hb2:IsB b2:=by rw [hq2.2.1];exact aC hbz
  have hzc:z=ij b:=hq1.1
  refine am (λhx=> ?_) (λhx=> ?_)
  ·rw [hzc] at hx
   have hk:vq b=2:=by unfold vq;rw [show ow (ij b)=true from hx];rfl
   refine ⟨⟨rfl,hb2⟩,?_⟩
   intro z3 b3 a3 e3 hq3
   have hb3:IsB b3:=by rw [hq3.2.1];exact aC hb2
   refine ⟨⟨rfl,hb3⟩,?_⟩
   intro v b4 a4 e4 hq4
   have hb4:IsB b4:=by rw [hq4.2.1];exact aC hb3
   obtain ⟨rfl,rfl,rfl,rfl,rfl⟩:=IX hk hq1 hq2 hq3 hq4
   refine ⟨⟨rfl,hb4⟩,?_⟩
   by_cases hz:xx b=0
   ·have ha2:All3 (acc++ [(ij b,kH b,jd b)]):=ha.snoc (xz hrem)
    have e1:(acc++ [(ij b,kH b,jd b)]).map fV=acc.map fV++ [fV (ij b,kH b,jd b)]:=by rw [map_append];rfl
    rw [hz]
    refine bg (by rw [dJ];rfl) ⟨?_,rfl,rfl,⟨lA b,a4,acc++ [(ij b,kH b,jd b)]⟩,⟨hb4,ha2,by simp only [length_append,length_cons,length_nil];omega,by rw [←hgo];exact (Ao hl hz).symm⟩,hlt,.inr ⟨?_,?_⟩⟩
    ·have h:=CL (ro:=0) (T:=⟨[z7,aG (lA b) a4 0,.cells (fV (ij b,kH b,jd b))],[(acc.length,3,true)]⟩) (T1:=⟨[z7,aG (lA b) a4 0,.cells (fV (ij b,kH b,jd b))],[(acc.length,3,true)]⟩) (s:=.tmp 35) (x:=.tmp 37) (l:= [(35,.vec 3 (acc.map fV) (.tail 0 acc.length)),(37,.vec 3 [fV (ij b,kH b,jd b)] .full)]) (es:=acc.map fV) (es2:= [fV (ij b,kH b,jd b)]) (k:=0) (n:=acc.length) (bn:=true)
      (by simp [aA,eF,cR]) rfl (by simp only [length_map,length_cons,length_nil];omega)
     exact h
    ·refine (show VT.keep ⟨z7::aG (lA b) a4 0::_,_⟩ 2 1=_ from ?_)
     simp only [VT.keep,take_succ_cons,take_zero,map_cons,map_nil,bK hb4]
     simp only [TT,length_append,length_cons,length_nil]
     rfl
    ·have e2:=rq (ap 2) (ap 1) ha2
     rw [e1] at e2
     simp only [aw,TV.ren,e2,Tok.ren]
     simp only [sl,qt,e1,length_append,length_map,length_cons,length_nil]
     rfl
   ·refine bd (by rw [dJ];exact congrArg Bool.not (decide_eq_false hz)) ⟨rfl,rfl,.inr ⟨_,_,acc.map fV,by rw [←hgo];exact CI hl hz,rfl,by simp only [qt,length_map],rfl⟩⟩
  ·rw [hzc] at hx
   have hk:vq b=1:=by unfold vq;rw [show ow (ij b)=false from hx];rfl
   refine ⟨⟨rfl,hb2⟩,?_⟩
   intro z3 b3 a3 e3 hq3
   have hb3:IsB b3:=by rw [hq3.2.1];exact aC hb2
   refine ⟨⟨rfl,hb3⟩,?_⟩
   intro v b4 a4 e4 hq4
   have hb4:IsB b4:=by rw [hq4.2.1];exact aC hb3
   obtain ⟨rfl,rfl,rfl,rfl,rfl⟩:=IX hk hq1 hq2 hq3 hq4
   refine ⟨⟨rfl,hb4⟩,?_⟩
   by_cases hz:xx b=0
   ·have ha2:All3 (acc++ [(ij b,kH b,jd b)]):=ha.snoc (xz hrem)
    have e1:(acc++ [(ij b,kH b,jd b)]).map fV=acc.map fV++ [fV (ij b,kH b,jd b)]:=by rw [map_append];rfl
    rw [hz]
    refine bg (by rw [dJ];rfl) ⟨?_,rfl,rfl,⟨lA b,a4,acc++ [(ij b,kH b,jd b)]⟩,⟨hb4,ha2,by simp only [length_append,length_cons,length_nil];omega,by rw [←hgo];exact (Ao hl hz).symm⟩,hlt,.inr ⟨?_,?_⟩⟩
    ·have h:=CL (ro:=0) (T:=⟨[z7,aG (lA b) a4 0,.cells (fV (ij b,kH b,jd b))],[(acc.length,3,true)]⟩) (T1:=⟨[z7,aG (lA b) a4 0,.cells (fV (ij b,kH b,jd b))],[(acc.length,3,true)]⟩) (s:=.tmp 35) (x:=.tmp 37) (l:= [(35,.vec 3 (acc.map fV) (.tail 0 acc.length)),(37,.vec 3 [fV (ij b,kH b,jd b)] .full)]) (es:=acc.map fV) (es2:= [fV (ij b,kH b,jd b)]) (k:=0) (n:=acc.length) (bn:=true)
      (by simp [aA,eF,cR]) rfl (by simp only [length_map,length_cons,length_nil];omega)
     exact h
    ·refine (show VT.keep ⟨z7::aG (lA b) a4 0::_,_⟩ 2 1=_ from ?_)
     simp only [VT.keep,take_succ_cons,take_zero,map_cons,map_nil,bK hb4]
     simp only [TT,length_append,length_cons,length_nil]
     rfl
    ·have e2:=rq (ap 2) (ap 1) ha2
     rw [e1] at e2
     simp only [aw,TV.ren,e2,Tok.ren]
     simp only [sl,qt,e1,length_append,length_map,length_cons,length_nil]
     rfl
   ·refine bd (by rw [dJ];exact congrArg Bool.not (decide_eq_false hz)) ⟨rfl,rfl,.inr ⟨_,_,acc.map fV,by rw [←hgo];exact CI hl hz,rfl,by simp only [qt,length_map],rfl⟩⟩
 ·exact bg (decide_eq_false hl) ⟨rfl,rfl,.inl ⟨acc,b,a,0,by rw [←hgo];exact LQ hl,rfl,by simp only [qt,length_map],rfl⟩⟩
theorem ON {b:Bs}(h:IsB b):dy prog ae (Vp 41 aG b (eZ b) (jW b) (aE prog ti 0)):=bO λp hp=>by
 obtain rfl:=mem_singleton.1 hp
 exact cd λK hK=>LR h K hK
theorem Rd {b:Bs}(h:jW b=false):TVle (.tup [.val (.slice none 0 0),.agg [.val (.int .i64 3),.val (.int .i64 1),.val (.slice none 0 0)]]) (vt b):=by
 have hl:eZ b= []:=by
  unfold eZ il
  unfold jW at h
  cases hc:xy b with
  |none=>rfl
  |some l=>rw [hc] at h;cases h
 unfold vt
 rw [h,hl]
 exact .tup ⟨.nil 3,.agg ⟨.refl _,.refl _,.nil 1,trivial⟩,trivial⟩
theorem OO {b:Bs}(h:jW b=true)(tok:Tok):TVle (.tup [.vec 3 (eZ b) tok,.agg [.val (.int .i64 0),.val (.int .i64 0),.val (.slice none 0 0)]]) (vt b):=by
 unfold vt
 rw [h]
 exact .tup ⟨.vec 3 _ _,.agg ⟨.refl _,.refl _,.nil 1,trivial⟩,trivial⟩
theorem y9 {b:Bs}(hb:IsB b)(f g:Nat→Option Nat):br f g (eZ b)=eZ b:=rq f g (Rc hb)
theorem Re {b:Bs}(hb:IsB b):VCx prog ae 0 ti [.vec 1 b .none] ⟨[],[]⟩ λx T'=>x=vt b∧T'=⟨[],[]⟩:=by
 refine VCx.toLe (Q:=λT'=>T'=⟨[],[]⟩) (VCx.keepQ 0 0 (le_refl _) (le_refl _) (aj ac aa (aZ λp hp=>by obtain rfl:=mem_singleton.1 hp;exact uH) (ON hb) (Uv b (eZ b) (jW b) _) ?_))
 refine ⟨hb,rfl,⟨rfl,rfl,rfl,⟨rfl,trivial⟩,rfl,rfl,rfl⟩,?_⟩
 cases h:jW b
 ·exact λrest tlz Lz=>⟨Rd h,rfl⟩
 ·refine λbz az ez=>⟨?_,rfl⟩
  simp only [TV.ren,aw,y9 hb]
  exact OO h _
--bumped 32
abbrev jX:=147
abbrev I0:=154
abbrev xB:=155
def iT (z:Int):List TV:= [.val (.int .i64 z)]
def iV (l:List Int):Bs:=l.map iT
def EN:List Nat:= [0,1,4,6,7,8]
def Ap (L:Bs)(v r j:Int):List TV:= [.vec 1 L .none,.val (.int .i64 v),.val (.int .i64 r),.vec 1 L .none,.val (.int .i64 L.length),.val (.int .i64 j)]
def Vq (L:Bs)(v r j:Int)(hit:Bool)(c0:Code):Nat→Option (bW × Code):=bX [(0,gn 19 EN [] (Ap L v 0 0) ⟨[],[]⟩ λK=>bif hit then K .ret (aI 19 EN (Ap L v r j)) ⟨[],[]⟩ [] else K .normal (aI 19 EN (Ap L v 0 L.length)) ⟨[],[]⟩ [],c0)]
def has0 (L:Bs):Bool:=L.any λr=>decide (gU r=0)
def Vr (L:Bs):Prop:=∃l:List Int,L=iV l∧l.length≤1000
def MZ:be:=λ_ ys T K=>match ys with
 |[.vec 1 L _,.val (.int .i64 0)]=>Vr L∧K (.val (.bool (has0 L))) T
 |_=>False
def Aq:List Nat:= [2,3,4,5]
def Ar (L:Bs):List TV:= [.val (.slice none 0 0),.val (.bool false),.ptr 0 0,.vec 1 L (.tail 0 L.length)]
def v6:List Nat:= [2,3,4,5,35,36]
def As (L:Bs)(n j:Int):List TV:= [.val (.slice none 0 0),.val (.bool false),.ptr 0 0,.vec 1 L (.tail 0 L.length),.val (.int .i64 n),.val (.int .i64 j)]
def Rf (b b' L L':Bs)(a e a' e' n:Int)(c0:Code):Nat→Option (bW × Code):=bX [(2,gn 55 v6 [] (As L n 0) ⟨[aG b a e],[(L.length,1,true)]⟩ (λK=>K .normal (aI 55 v6 (As L' n n)) ⟨[aG b' a' e'],[(L'.length,1,true)]⟩ []),c0)]
def Rg (P:Bs→Int→Prop)(N:Prop)(K:KX):Prop:=(∀(L bz:Bs) (az ez:Int),(IsB bz∧P L ez)→K .normal (aI 55 Aq (Ar L)) ⟨[aG bz az ez],[(L.length,1,true)]⟩ [])∧(∀(rest:List VO) (tlz:List (Nat × Nat × Bool)) (Lz:Bs),N→K .ret (aI 55 Aq (Ar Lz)) ⟨rest,tlz⟩ [])
def Vs (b:Bs)(P:Bs→Int→Prop)(N:Prop)(c0:Code):Nat→Option (bW × Code):=bX [(0,gn 55 Aq [(5,1)] (Ar []) ⟨[aG b 0 0],[(0,1,true)]⟩ (Rg P N),c0)]
theorem Uw (L:Bs)(v r j:Int)(hit:Bool)(Q:TV→VT→Prop):ax prog ae bo aR 300 (Vq L v r j hit (aE prog xB 0)) 0 xB [.vec 1 L .none,.val (.int .i64 v)] aD Q=
 ((aE prog xB (0:Nat)=aE prog xB (0:Nat))∧
 (((@Eq (Option Nat) .none .none)∧
 ((@Eq (Nat) 0 0)∧
 ((@Eq (List Nat) [] [])∧
 (True  ∧
 ((@Eq (VT) aD aD)∧
 ((@Eq (Bool) true true)∧
 (@Eq (List TV) [(aH L),(ah v),aB,(aH L),(ah (↑(length L):Int)),aB] [(aH L),(ah v),aB,(aH L),(ah (↑(length L):Int)),aB])))))))∧
 (bif hit
 then Q (ah r) aD
 else Q (ah (-1)) aD))):=by kernel_rfl
theorem I1 (L:Bs)(v r z:Int)(j:Nat)(Q:Exit→List TV→VT→List Nat→Nat→Prop):vx prog ae bo (bB [(999998,.dead,none),(14,.elt (iT z),none)]) 300 aU none 0 (cC prog xB 0) (aI 19 EN (Ap L v r j)) aD [] (dw EN Q)=
 (bif decide ((↑j:Int)<(↑(length L):Int))
 then (aS prog (λ_=>.none) (.indexAddr 71 (.tmp 12) (.tmp 13)) [(12,(aH L)),(13,(ah (↑j:Int)))] (.elt [(ah z)])∧
 (bif av eql (k6 v z)
 then Q .ret (GQ L v (↑j:Int) L (↑(length L):Int) (↑j:Int)) aD [] 19
 else Q .normal (GQ L v r L (↑(length L):Int) (wrap i64 ((↑j:Int)+(1:Int)))) aD [] 19))
 else Q (.exit 0) (GQ L v r L (↑(length L):Int) (↑j:Int)) aD [] 19):=by kernel_rfl
theorem Ux (L:Bs)(v r:Int)(Q:TV→VT→Prop):ax prog ae (aT [(xB,Iw [.vec 1 L .none,.val (.int .i64 v)] (ah r))]) aR 300 aU 0 I0 [.vec 1 L .none,.val (.int .i64 v)] aD Q=
 ((@Eq (List TV) [(aH L),(ah v)] [(aH L),(ah v)])∧
 Q (mB (decide (r≥(0:Int)))) aD):=by kernel_rfl
theorem Rh (b L:Bs)(a e n:Int)(j:Nat)(Q:Exit→List TV→VT→List Nat→Nat→Prop):vx prog ae (aT [(mn,lu .i64 2)]) (bB [(999999,.dead,none),(42,.vec 1 (L++ [iT (aN 2 b e)]) (.tail 0 (L.length+1)),some λT=>{T with tails:= [(L.length+1,1,true)]})]) 300 aU none 0 (cC prog jX 2) (aI 55 v6 (As L n j)) ⟨[aG b a e],[(L.length,1,true)]⟩ [] (dw v6 Q)=
 (bif decide ((↑j:Int)<n)
 then (((@Eq (Bool) true true)∧
 IsB (b))∧
 (bp prog (λ_=>.none) 0 ⟨[(.cells [aF,(aH (ar (↑(2:Nat):Int) b e)),(ah (bE (↑(2:Nat):Int) b e a)),(ah (au (↑(2:Nat):Int) b e))])],[((length L),(1,true))]⟩ (.call ⟨(.builtin .append),#[(.tmp 38),(.tmp 41)],#[71,71]⟩) [(38,(nm L (length L))),(41,(sY [[(.val (.int .i64 (aN (2:Nat) b e)))]]))] (nm (L++ [iT (aN (2:Nat) b e)]) (length L+(1:Nat))) ⟨[(.cells [aF,(aH (ar (↑(2:Nat):Int) b e)),(ah (bE (↑(2:Nat):Int) b e a)),(ah (au (↑(2:Nat):Int) b e))])],[((length L+(1:Nat)),(1,true))]⟩∧
 Q .normal [aO,ak,fb,(nm (L++ [iT (aN (2:Nat) b e)]) (length L+(1:Nat))),(ah n),(ah (wrap i64 ((↑j:Int)+(1:Int))))] ⟨[(.cells [aF,(aH (ar (↑(2:Nat):Int) b e)),(ah (bE (↑(2:Nat):Int) b e a)),(ah (au (↑(2:Nat):Int) b e))])],[((length L+(1:Nat)),(1,true))]⟩ [] 55))
 else Q (.exit 2) [aO,ak,fb,(nm L (length L)),(ah n),(ah (↑j:Int))] ⟨[(.cells [aF,(aH b),(ah a),(ah e)])],[((length L),(1,true))]⟩ [] 55):=by kernel_rfl
abbrev v7 (b:Bs)(e:Int)(a:Int):TV:=(ah (bE (↑(1:Nat):Int) (ar (↑(1:Nat):Int) b e) (au (↑(1:Nat):Int) b e) (bE (↑(1:Nat):Int) b e a)))
abbrev v8 (b:Bs)(e:Int):TV:=(aH (ar (↑(1:Nat):Int) (ar (↑(1:Nat):Int) b e) (au (↑(1:Nat):Int) b e)))
abbrev wa (b:Bs)(e:Int):TV:=(ah (au (↑(1:Nat):Int) (ar (↑(1:Nat):Int) b e) (au (↑(1:Nat):Int) b e)))
abbrev Ri (L:Bs)(b:Bs)(e:Int):List TV:=(GP L (length L) (aN (1:Nat) (ar (↑(1:Nat):Int) b e) (au (↑(1:Nat):Int) b e)))
theorem I2 (b b2 b' L L':Bs)(a e a2 e2 a' e' n:Int)(Q:Exit→List TV→VT→List Nat→Nat→Prop):vx prog ae (aT [(kf,m4),(iD,lu .i64 1)]) (bB [(999999,.dead,none)]) 300 (Rf b2 b' L L' a2 e2 a' e' n (aE prog jX 2)) none 0 (cC prog jX 0) (aI 55 Aq (Ar L)) ⟨[aG b a e],[(L.length,1,true)]⟩ [] (dw Aq Q)=
 (((@Eq (Bool) true true)∧
 IsB (b))∧
 (bif decide (bC b e>(0:Int))
 then (((@Eq (Bool) true true)∧
 IsB (b))∧
 (((@Eq (Bool) true true)∧
 IsB (ar (↑(1:Nat):Int) b e))∧
 (bif av neq (k6 (aN (1:Nat) b e) (1:Int))
 then (bif av neq (k6 (aN (1:Nat) b e) (2:Int))
 then Q .ret (pm L (length L)) ⟨[(.cells [aF,(v8 b e),(v7 b e a),(wa b e)])],[((length L),(1,true))]⟩ [] 55
 else (bif av eql (k6 (aN (1:Nat) (ar (↑(1:Nat):Int) b e) (au (↑(1:Nat):Int) b e)) (0:Int))
 then Q .ret (pm L (length L)) ⟨[(.cells [aF,(v8 b e),(v7 b e a),(wa b e)])],[((length L),(1,true))]⟩ [] 55
 else (bif decide (wrap i64 ((↑(length L):Int)+aN (1:Nat) (ar (↑(1:Nat):Int) b e) (au (↑(1:Nat):Int) b e))>(16:Int))
 then Q .ret (pm L (length L)) ⟨[(.cells [aF,(v8 b e),(v7 b e a),(wa b e)])],[((length L),(1,true))]⟩ [] 55
 else ((aE prog jX (2:Nat)=aE prog jX (2:Nat))∧
 (((@Eq (Option Nat) .none .none)∧
 ((@Eq (Nat) 0 0)∧
 ((@Eq (List Nat) [] [])∧
 (True  ∧
 ((@Eq (VT) ⟨[(.cells [aF,(v8 b e),(v7 b e a),(wa b e)])],[((length L),(1,true))]⟩ ⟨[(.cells [aF,(aH b2),(ah a2),(ah e2)])],[((length L),(1,true))]⟩)∧
 ((@Eq (Bool) true true)∧
 (@Eq (List TV) (Ri L b e) (GP L (length L) n))))))))∧
 Q .normal (pm L' (length L')) ⟨[(.cells [aF,(aH b'),(ah a'),(ah e')])],[((length L'),(1,true))]⟩ [] 55)))))
 else (bif av eql (k6 (aN (1:Nat) (ar (↑(1:Nat):Int) b e) (au (↑(1:Nat):Int) b e)) (0:Int))
 then Q .ret (pm L (length L)) ⟨[(.cells [aF,(v8 b e),(v7 b e a),(wa b e)])],[((length L),(1,true))]⟩ [] 55
 else (bif decide (wrap i64 ((↑(length L):Int)+aN (1:Nat) (ar (↑(1:Nat):Int) b e) (au (↑(1:Nat):Int) b e))>(16:Int))
 then Q .ret (pm L (length L)) ⟨[(.cells [aF,(v8 b e),(v7 b e a),(wa b e)])],[((length L),(1,true))]⟩ [] 55
 else ((aE prog jX (2:Nat)=aE prog jX (2:Nat))∧
 (((@Eq (Option Nat) .none .none)∧
 ((@Eq (Nat) 0 0)∧
 ((@Eq (List Nat) [] [])∧
 (True  ∧
 ((@Eq (VT) ⟨[(.cells [aF,(v8 b e),(v7 b e a),(wa b e)])],[((length L),(1,true))]⟩ ⟨[(.cells [aF,(aH b2),(ah a2),(ah e2)])],[((length L),(1,true))]⟩)∧
 ((@Eq (Bool) true true)∧
 (@Eq (List TV) (Ri L b e) (GP L (length L) n))))))))∧
 Q .normal (pm L' (length L')) ⟨[(.cells [aF,(aH b'),(ah a'),(ah e')])],[((length L'),(1,true))]⟩ [] 55)))))))
 else Q (.exit 0) (pm L (length L)) ⟨[(.cells [aF,(aH b),(ah a),(ah e)])],[((length L),(1,true))]⟩ [] 55)):=by kernel_rfl
theorem Uy (b:Bs)(P:Bs→Int→Prop)(N:Prop)(Q:TV→VT→Prop):ax prog ae (aT [(ke,mA),(jc,lv),(I0,MZ)]) (bB [(999999,.dead,none)]) 300 (Vs b P N (aE prog jX 0)) 0 jX [.vec 1 b .none] aD Q=
 (IsB (b)∧
 ((aE prog jX (0:Nat)=aE prog jX (0:Nat))∧
 (((@Eq (Option Nat) .none .none)∧
 ((@Eq (Nat) 0 0)∧
 ((@Eq (List Nat) [] [])∧
 (((@Eq (Option TV) (.some aO) (.some aO))∧
 True)∧
 ((@Eq (VT) ⟨[(.cells [aF,(aH b),aB,aB])],[(0,(1,true))]⟩ ⟨[(.cells [aF,(aH b),aB,aB])],[(0,(1,true))]⟩)∧
 ((@Eq (Bool) true true)∧
 (@Eq (List TV) [aO,ak,fb,(.vec 1 [] (.tail 0 0))] [aO,ak,fb,(.vec 1 [] (.tail 0 0))])))))))∧
 ((∀L:Bs,(∀bz:Bs,(∀az:Int,(∀ez:Int,((IsB (bz)∧
 P (L) (ez))→(((@Eq (Bool) true true)∧
 IsB (bz))∧
 (bif av eql (k6 ez (0:Int))
 then (Vr (L)∧
 (bif !!has0 L
 then Q Bb ⟨[(.cells [aF,(aH bz),(ah az),(ah ez)])],[((length L),(1,true))]⟩
 else Q (.tup [(nm L (length L)),aF]) ⟨[(.cells [aF,(aH bz),(ah az),(ah ez)])],[((length L),(1,true))]⟩))
 else Q Bb ⟨[(.cells [aF,(aH bz),(ah az),(ah ez)])],[((length L),(1,true))]⟩)))))))∧
 (∀rest:List VO,(∀tlz:List (Nat × Nat × Bool),(∀Lz:Bs,(N  →Q Bb ⟨(rest),(tlz)⟩)))))))):=by kernel_rfl
def kI:Nat→Bs→List Int→Option (Bs × List Int)
 | 0,b,l=>some (b,l)
 |k+1,b,l=>bif decide (au 2 b 0=0)&&(!decide (aN 2 b 0=0)&& !decide (l.length=16)) then kI k (ar 2 b 0) (l++ [aN 2 b 0]) else none
def xC (b:Bs):Int:=aN 1 b 0
def di (b:Bs):Int:=aN 1 (ar 1 b 0) (au 1 b 0)
def ld (b:Bs):Bs:=ar 1 (ar 1 b 0) (au 1 b 0)
def EO (b:Bs):Int:=au 1 (ar 1 b 0) (au 1 b 0)
def m6 (b:Bs):Bool:=(decide (xC b=1) || decide (xC b=2))&& !decide (di b=0)
def iE:Nat→Bs→List Int→Option (List Int)
 | 0,_,_=>none
 |k+1,b,l=>bif decide (bC b 0>0) then (bif m6 b then (match kI (di b).toNat (ld b) l with
  |some (b',l')=>iE k b' l'
  |none=>none) else none) else some l
def ox (b:Bs):Option (List Int):=iE (b.length+1) b []
def xD (b:Bs):Bool:=(ox b).isSome
def EP (b:Bs):List Int:=(ox b).getD []
def xE (b:Bs):TV:=.tup [.vec 1 (iV (EP b)) .none,.val (.bool (xD b))]
theorem qu (l:List Int):(iV l).length=l.length:=length_map _
theorem CM (l:List Int)(z:Int):iV (l++ [z])=iV l++ [iT z]:=by simp [iV]
theorem dW (f g:Nat→Option Nat):∀l:List Int,br f g (iV l)=iV l
 |[]=>rfl
 |a::l=>by
  have h:=dW f g l
  simp only [iV,map_cons,br] at h ⊢
  rw [h];rfl
theorem I3 {k:Nat}{b:Bs}{e:Int}(h:¬aN k b e=0):au k b e=0:=by
 unfold aN at h
 cases hc:cU k b e
 ·rw [hc] at h;exact absurd rfl h
 ·simp only [cU,Bool.and_eq_true,decide_eq_true_eq] at hc
  unfold au
  rw [decide_eq_true hc.1.1,decide_eq_false (show ¬((k:Nat):Int)<0 by omega),decide_eq_true hc.2];rfl
theorem xF {b:Bs}(h:bC b 0>0):(ld b).length<b.length:=by
 have h1:=yY h
 have h2:=ii (n:=1) (b:=ar 1 b 0) (e:=au 1 b 0)
 unfold ld
 omega
theorem CN {b:Bs}(h:IsB b):IsB (ld b):=aC (aC h)
theorem uM:∀(k:Nat) (b:Bs) (l:List Int) (b':Bs) (l':List Int),kI k b l=some (b',l')→b'.length≤b.length∧l'.length=l.length+k
 | 0,b,l,b',l',h=>by
  simp only [kI,Option.some.injEq,Prod.mk.injEq] at h
  obtain ⟨rfl,rfl⟩:=h
  exact ⟨le_refl _,rfl⟩
 |k+1,b,l,b',l',h=>by
  unfold kI at h
  cases hc:(decide (au 2 b 0=0)&&(!decide (aN 2 b 0=0)&& !decide (l.length=16)))<;>rw [hc] at h
  ·cases h
  ·obtain ⟨h1,h2⟩:=uM k _ _ _ _ h
   have h3:=ii (n:=2) (b:=b) (e:=0)
   refine ⟨le_trans h1 h3,?_⟩
   rw [h2,length_append,length_cons,length_nil];omega
theorem CO:∀(k:Nat) (b:Bs) (l:List Int) (b':Bs) (l':List Int),l.length≤16→kI k b l=some (b',l')→l'.length≤16
 | 0,b,l,b',l',h0,h=>by
  simp only [kI,Option.some.injEq,Prod.mk.injEq] at h
  rw [←h.2];exact h0
 |k+1,b,l,b',l',h0,h=>by
  unfold kI at h
  cases hc:(decide (au 2 b 0=0)&&(!decide (aN 2 b 0=0)&& !decide (l.length=16)))<;>rw [hc] at h
  ·cases h
  ·simp only [Bool.and_eq_true,Bool.not_eq_true',decide_eq_false_iff_not] at hc
   exact CO k _ _ _ _ (by rw [length_append,length_cons,length_nil];omega) h
theorem CP {k:Nat}{b:Bs}{l:List Int}(h0:l.length≤16)(h:l.length+k>16):kI k b l=none:=by
 cases hc:kI k b l with
 |none=>rfl
 |some p=>
  obtain ⟨b',l'⟩:=p
  have h1:=(uM k b l b' l' hc).2
  have h2:=CO k b l b' l' h0 hc
  omega
theorem At:∀(k j:Nat) (b:Bs) (l:List Int),b.length<k→b.length<j→iE k b l=iE j b l
 | 0,_,_,_,h,_=>absurd h (not_lt_zero _)
 |_,0,_,_,_,h=>absurd h (not_lt_zero _)
 |k+1,j+1,b,l,h1,h2=>by
  unfold iE
  by_cases hl:bC b 0>0
  ·have hb:=xF hl
   rw [decide_eq_true hl]
   cases hi:kI (di b).toNat (ld b) l with
   |none=>rfl
   |some p=>
    obtain ⟨b',l'⟩:=p
    have h3:=(uM _ _ _ _ _ hi).1
    simp only [At k j b' l' (by omega) (by omega)]
  ·rw [decide_eq_false hl];rfl
theorem wb {b:Bs}{l:List Int}(hl:bC b 0>0)(hh:m6 b=false):iE (b.length+1) b l=none:=by
 simp only [iE,decide_eq_true hl,hh,cond_true,cond_false]
theorem tp {b:Bs}{l:List Int}(hl:bC b 0>0)(hi:kI (di b).toNat (ld b) l=none):iE (b.length+1) b l=none:=by
 simp only [iE,decide_eq_true hl,hi,cond_true]
 cases m6 b<;>rfl
theorem I4 {b b':Bs}{l l':List Int}(hl:bC b 0>0)(hh:m6 b=true)(hi:kI (di b).toNat (ld b) l=some (b',l')):iE (b.length+1) b l=iE (b'.length+1) b' l':=by
 have h1:=xF hl
 have h2:=(uM _ _ _ _ _ hi).1
 rw [At (b'.length+1) b.length b' l' (by omega) (by omega)]
 simp only [iE,decide_eq_true hl,hh,hi,cond_true]
theorem LS {b:Bs}{l:List Int}(hl:¬bC b 0>0):iE (b.length+1) b l=some l:=by
 simp only [iE,decide_eq_false hl,cond_false]
def co:Nat→Bs × Int × Int × List Int→Bs × Int × Int × List Int
 | 0,s=>s
 |k+1,(b,a,e,l)=>co k (ar 2 b e,bE 2 b e a,au 2 b e,l++ [aN 2 b e])
theorem CQ:∀(k:Nat) (s:Bs × Int × Int × List Int),IsB s.1→IsB (co k s).1∧(co k s).1.length≤s.1.length∧(co k s).2.2.2.length=s.2.2.2.length+k
 | 0,s,h=>⟨h,le_refl _,rfl⟩
 |k+1,(b,a,e,l),h=>by
  obtain ⟨h1,h2,h3⟩:=CQ k (ar 2 b e,bE 2 b e a,au 2 b e,l++ [aN 2 b e]) (aC h)
  have h4:=ii (n:=2) (b:=b) (e:=e)
  simp only [length_append,length_cons,length_nil] at h2 h3
  refine ⟨h1,?_,?_⟩
  ·simp only [co];omega
  ·simp only [co];omega
theorem Rj {n:Int}{b:Bs}{e:Int}(h:¬e=0):au n b e=e:=by unfold au;rw [decide_eq_false h];rfl
theorem EQ:∀(k:Nat) (s:Bs × Int × Int × List Int),¬s.2.2.1=0→¬(co k s).2.2.1=0
 | 0,_,h=>h
 |k+1,(b,a,e,l),h=>by
  simp only [co]
  exact EQ k _ (by simp only;rw [Rj h];exact h)
theorem rt:∀(k:Nat) (s:Bs × Int × Int × List Int),0∈s.2.2.2→0∈(co k s).2.2.2
 | 0,_,h=>h
 |k+1,(b,a,e,l),h=>by
  simp only [co]
  exact rt k _ (List.mem_append_left _ h)
theorem I5:∀(k:Nat) (b:Bs) (a:Int) (l:List Int),l.length+k≤16→(∃b' l',kI k b l=some (b',l')∧(co k (b,a,0,l)).1=b'∧(co k (b,a,0,l)).2.2.1=0∧(co k (b,a,0,l)).2.2.2=l'∧(¬0∈l→¬0∈l'))∨
  (kI k b l=none∧(¬(co k (b,a,0,l)).2.2.1=0∨0∈(co k (b,a,0,l)).2.2.2))
 | 0,b,a,l,_=>.inl ⟨b,l,rfl,rfl,rfl,rfl,λh=>h⟩
 |k+1,b,a,l,h=>by
  have h16:¬l.length=16:=by omega
  by_cases he:au 2 b 0=0
  ·by_cases hz:aN 2 b 0=0
   ·refine .inr ⟨by simp only [kI,decide_eq_true he,decide_eq_true hz,Bool.not_true,Bool.false_and,Bool.and_false,cond_false],.inr ?_⟩
    simp only [co]
    refine rt k _ (List.mem_append_right _ ?_)
    rw [show aN 2 b 0=0 from hz];exact mem_cons_self
   ·have e1:kI (k+1) b l=kI k (ar 2 b 0) (l++ [aN 2 b 0]):=by
     simp only [kI,decide_eq_true he,decide_eq_false hz,decide_eq_false h16,Bool.not_false,Bool.and_self,cond_true]
    have e2:co (k+1) (b,a,0,l)=co k (ar 2 b 0,bE 2 b 0 a,0,l++ [aN 2 b 0]):=by
     show co k (ar (2:Int) b 0,bE 2 b 0 a,au 2 b 0,l++ [aN 2 b 0])=_
     rw [he]
    rw [e1,e2]
    rcases I5 k (ar 2 b 0) (bE 2 b 0 a) (l++ [aN 2 b 0]) (by rw [length_append,length_cons,length_nil];omega) with ⟨b',l',g1,g2,g3,g4,g5⟩ | g
    ·refine .inl ⟨b',l',g1,g2,g3,g4,λhn=>g5 λhm=> ?_⟩
     rcases mem_append.1 hm with hm | hm
     ·exact hn hm
     ·exact hz (mem_singleton.1 hm).symm
    ·exact .inr g
  ·refine .inr ⟨by simp only [kI,decide_eq_false he,Bool.false_and,cond_false],.inl ?_⟩
   simp only [co]
   exact EQ k _ he
theorem ER (l:List Int):has0 (iV l)=decide (0∈l):=by
 induction l with
 |nil=>rfl
 |cons a l ih=>
  have e:has0 (iV (a::l))=(decide (a=0) || has0 (iV l)):=rfl
  rw [e,ih]
  by_cases ha:a=0
  ·subst ha;simp
  ·have:¬(0:Int)=a:=λh=>ha h.symm
   simp [ha,this]
theorem CR:∃inf:TypeInfo,prog.info? 3=some inf∧inf.size=1∧inf.bytes+1≤1000∧inf.zero=some (.int .i64 0):=
 ⟨(prog.info? 3).getD default,by kernel_rfl,by kernel_rfl,le_of_ble_eq_true (by kernel_rfl),by kernel_rfl⟩
theorem LT {ro:Nat}{T T1:VT}{s x:Operand}{l:List (Nat × TV)}{es es2:List (List TV)}{k n:Nat}{bn:Bool}(hs:cR T 1 (aA ae l s)=some (es,k,n,bn,T1))(hx:jr 1 (aA ae l x)=some es2)(hb:es.length+es2.length≤64000001):
    bp prog ae ro T (.call ⟨.builtin .append,#[s,x],#[71,71]⟩) l (.vec 1 (es++es2) (.tail k (n+es2.length))) {T1 with tails:=T1.tails.set k (n+es2.length,1,bn)}:=by
  obtain ⟨inf,i1,i2,i3,i4⟩:=CR
  have h:=fq (inf:=inf) (P:=prog) (G:=ae) (ro:=ro) (T:=T) (T1:=T1) (t:=71) (tx:=71) (s:=s) (x:=x) (l:=l) (es:=es) (es2:=es2) (k:=k) (n:=n) (bn:=bn) Tryz.underlying71 i1 i4 (by rw [i2];rfl) (by rw [i2];decide) (by kernel_rfl) (by rw [i2];exact hs) (by rw [i2];exact hx)
    (by have h1:=i3
        have h2:=Nat.mul_le_mul hb h1
        omega)
  rw [i2] at h
  exact h
theorem oy {x i:Operand}{l:List (Nat × TV)}{b:Bs}{tok:Tok}{k:IntKind}{z:Int}{e:List TV}(hx:aA ae l x=.vec 1 b tok)(hz:aA ae l i=.val (.int k z))(h0:0≤z)(he:b[z.toNat]?=some e):
  aS prog ae (.indexAddr 71 x i) l (.elt e):=by
 obtain ⟨inf,i1,i2,_,_⟩:=CR
 exact fp (inf:=inf) Tryz.underlying71 i1 (by rw [i2];exact hx) hz h0 he
def vu (l:List Int)(v:Int):Int:=match l.findIdx? (λz=>decide (v=z)) with
 |some k=>k
 |none=>-1
theorem Rk (l:List Int)(hl:l.length≤1000)(v:Int):VCx prog ae 0 xB [.vec 1 (iV l) .none,.val (.int .i64 v)] ⟨[],[]⟩ λx T'=>x=.val (.int .i64 (vu l v))∧T'=⟨[],[]⟩:=by
 have hloop:dy prog ae (Vq (iV l) v (vu l v) (vu l v) (l.findIdx? (λz=>decide (v=z))).isSome (aE prog xB 0)):=bO λp hp=>by
  obtain rfl:=mem_singleton.1 hp
  refine cd λK hK=> ?_
  let Post:Exit→List TV→VT→Prop:=λe vs T=>(∃k:Nat,l.findIdx? (λz=>decide (v=z))=some k∧e=.ret∧vs=Ap (iV l) v k k∧T=⟨[],[]⟩)∨(l.findIdx? (λz=>decide (v=z))=none∧e=.normal∧vs=Ap (iV l) v 0 l.length∧T=⟨[],[]⟩)
  refine dM (f:=xB) (id:=0) (by kernel_rfl) 19 EN (λj:Nat=>l.length-j) (λj=>Ap (iV l) v 0 j) (λ_=>⟨[],[]⟩) (λj=>j≤l.length∧∀k z,k<j→l[k]?=some z→v≠z) 0 0 (λ_ _=>⟨le_refl _,le_refl _⟩)
   Post (λj hj=> ?_) 0 ⟨zero_le _,λk _ hk=>absurd hk (not_lt_zero k)⟩ K (λe vs T hq=> ?_)
  ·obtain ⟨hj,hne⟩:=hj
   by_cases hlt:j<l.length
   ·have hs:l[j]?=some l[j]:=getElem?_eq_getElem hlt
    generalize hzz:l[j]=z at hs
    have hw:=up j (by omega)
    refine bU ac aa ai ag (I1 (iV l) v 0 z j _) ?_
    refine bd (decide_eq_true (by rw [qu];omega)) ⟨oy rfl rfl (Int.natCast_nonneg _) (by rw [Int.toNat_natCast];simp only [iV,getElem?_map,hs];rfl),?_⟩
    by_cases he:v=z
    ·refine bd (by rw [rZ];exact decide_eq_true he) ⟨rfl,rfl,.inl ⟨j,?_,rfl,rfl,rfl⟩⟩
     refine List.findIdx?_eq_some_iff_getElem.2 ⟨hlt,by rw [hzz];exact decide_eq_true he,λk hk=> ?_⟩
     have:=hne k _ hk (getElem?_eq_getElem (by omega))
     simpa using this
    ·refine bg (by rw [rZ];exact decide_eq_false he) ⟨rfl,rfl,j+1,⟨hlt,λk z' hk hz'=> ?_⟩,by simp only;omega,.inr ⟨rfl,?_⟩⟩
     ·rcases lt_or_ge k j with h | h
      ·exact hne k z' h hz'
      ·obtain rfl:k=j:=by omega
       rw [hs] at hz';injection hz' with hz';subst hz';exact he
     ·rw [hw]
      simp only [aw,TV.ren,dW,Tok.ren,Ap]
   ·obtain rfl:j=l.length:=by omega
    refine bU ac aa ai ag (I1 (iV l) v 0 0 l.length _) ?_
    refine bg (decide_eq_false (by rw [qu];omega)) ⟨rfl,rfl,.inr ⟨?_,rfl,rfl,rfl⟩⟩
    refine List.findIdx?_eq_none_iff.2 λz hz=> ?_
    obtain ⟨k,hk,rfl⟩:=List.getElem_of_mem hz
    simpa using hne k _ hk (getElem?_eq_getElem hk)
  ·rcases hq with ⟨k,h1,rfl,rfl,rfl⟩ | ⟨h1,rfl,rfl,rfl⟩
   ·simp only [h1,isSome_some,cond_true,vu] at hK
    exact hK
   ·simp only [h1,isSome_none,cond_false,qu] at hK
    exact hK
 refine aj ac aa ai hloop (Uw (iV l) v (vu l v) (vu l v) _ _) ⟨rfl,⟨rfl,rfl,rfl,trivial,rfl,rfl,rfl⟩,?_⟩
 unfold vu
 cases h:l.findIdx? (λz=>decide (v=z)) with
 |none=>exact bg rfl ⟨rfl,rfl⟩
 |some k=>exact bd rfl ⟨rfl,rfl⟩
theorem Uz (l:List Int):decide (vu l 0≥0)=decide (0∈l):=by
 unfold vu
 cases h:l.findIdx? (λz=>decide (0=z)) with
 |none=>
  have h1:=List.findIdx?_eq_none_iff.1 h
  have h2:¬(0:Int)∈l:=λhm=>by simpa using h1 0 hm
  simp [h2]
 |some k=>
  obtain ⟨hk,h1,_⟩:=List.findIdx?_eq_some_iff_getElem.1 h
  have h2:(0:Int)∈l:=by
   have e:(0:Int)=l[k]:=of_decide_eq_true h1
   rw [e];exact List.getElem_mem hk
  have h3:((k:Nat):Int)≥0:=by omega
  rw [decide_eq_true h2];exact decide_eq_true h3
theorem Rl (l:List Int)(hl:l.length≤1000):VCx prog ae 0 I0 [.vec 1 (iV l) .none,.val (.int .i64 0)] ⟨[],[]⟩ λx T'=>x=.val (.bool (has0 (iV l)))∧T'=⟨[],[]⟩:=by
 refine aj ac aa (aZ λp hp=>by
  obtain rfl:=mem_singleton.1 hp
  exact Ix aV (by simp [aw,TV.ren,dW,Tok.ren]) (λ_ _=>rfl) (Rk l hl 0)) ag (Ux (iV l) 0 (vu l 0) _) ⟨rfl,?_,rfl⟩
 rw [ER,Uz]
theorem Rm:∀ro ys T K,MZ ro ys T K→VCx prog ae ro I0 ys T K:=by
 intro ro ys T K hw
 unfold MZ at hw
 split at hw
 ·rename_i L tok
  obtain ⟨⟨l,rfl,hl⟩,hk⟩:=hw
  exact VCx.loosePure aV (Rl l hl) (by simp [ea]) (by simp [aw,TV.ren,dW,Tok.ren]) (λf h=>rfl) hk
 ·exact hw.elim
--bumped 32
abbrev pN:=Bs × Int × Int × List Int
theorem I6 (s0:pN)(h0:IsB s0.1)(n:Nat)(hn:s0.2.2.2.length+n≤1000)(K:KX)
  (hK:K .normal (aI 55 v6 (As (iV (co n s0).2.2.2) n n)) ⟨[aG (co n s0).1 (co n s0).2.1 (co n s0).2.2.1],[((iV (co n s0).2.2.2).length,1,true)]⟩ []):
  VWx prog ae none 0 (aE prog jX 2) (aI 55 v6 (As (iV s0.2.2.2) n 0)) ⟨[aG s0.1 s0.2.1 s0.2.2.1],[((iV s0.2.2.2).length,1,true)]⟩ [] K:=by
 let sl:Nat × pN→List TV:=λs=>As (iV s.2.2.2.2) n s.1
 let TT:Nat × pN→VT:=λs=>⟨[aG s.2.1 s.2.2.1 s.2.2.2.1],[((iV s.2.2.2.2).length,1,true)]⟩
 let Post:Exit→List TV→VT→Prop:=λe vs T=>e=.normal∧vs=As (iV (co n s0).2.2.2) n n∧T=⟨[aG (co n s0).1 (co n s0).2.1 (co n s0).2.2.1],[((iV (co n s0).2.2.2).length,1,true)]⟩
 refine dM (f:=jX) (id:=2) (by kernel_rfl) 55 v6 (λs:Nat × pN=>n-s.1) sl TT (λs=>s.1≤n∧IsB s.2.1∧s.2.2.2.2.length=s0.2.2.2.length+s.1∧co (n-s.1) s.2=co n s0) 1 1 (λ_ _=>⟨le_refl _,le_refl _⟩)
  Post (λs hs=> ?_) (0,s0) ⟨zero_le _,h0,rfl,rfl⟩ K (λe vs T ⟨h1,h2,h3⟩=>by subst h1 h2 h3;exact hK)
 obtain ⟨j,b,a,e,l⟩:=s
 obtain ⟨hj,hb,hlen,hgo⟩:=hs
 simp only at hj hb hlen hgo
 have hS:bu prog ae (aT [(mn,lu .i64 2)]):=aZ λp hp=>by obtain rfl:=mem_singleton.1 hp;exact uI
 refine bU ac aa hS ag (Rh b (iV l) a e n j _) ?_
 by_cases hlt:j<n
 ·have hw:=up j (by omega)
  refine bd (decide_eq_true (by omega)) ⟨⟨rfl,hb⟩,?_,rfl,rfl,(j+1,ar 2 b e,bE 2 b e a,au 2 b e,l++ [aN 2 b e]),⟨hlt,aC hb,by simp only [length_append,length_cons,length_nil];omega,?_⟩,by simp only;omega,.inr ⟨?_,?_⟩⟩
  ·have h:=LT (ro:=0) (T:=⟨[aG (ar 2 b e) (bE 2 b e a) (au 2 b e)],[((iV l).length,1,true)]⟩) (T1:=⟨[aG (ar 2 b e) (bE 2 b e a) (au 2 b e)],[((iV l).length,1,true)]⟩) (s:=.tmp 38) (x:=.tmp 41) (l:= [(38,.vec 1 (iV l) (.tail 0 (iV l).length)),(41,.vec 1 [iT (aN 2 b e)] .full)]) (es:=iV l) (es2:= [iT (aN 2 b e)]) (k:=0) (n:=(iV l).length) (bn:=true)
    (by simp [aA,eF,cR]) rfl (by rw [qu];simp only [length_cons,length_nil];omega)
   exact h
  ·rw [←hgo,show n-j=(n-(j+1))+1 by omega];rfl
  ·refine (show VT.keep ⟨aG (ar 2 b e) (bE 2 b e a) (au 2 b e)::_,_⟩ 1 1=_ from ?_)
   simp only [VT.keep,take_succ_cons,take_zero,map_cons,map_nil,bK (aC hb)]
   simp only [TT,CM,length_append,length_cons,length_nil]
  ·have e2:=dW (ap 1) (ap 1) (l++ [aN 2 b e])
   rw [CM] at e2
   have e3:br (ap 1) (ap 1) (iV l++ [iT (aN ((2:Nat)) b e)])=iV l++ [iT (aN 2 b e)]:=e2
   rw [hw]
   simp only [aw,TV.ren,e3,Tok.ren]
   simp only [sl,As,CM,length_append,length_cons,length_nil]
   rfl
 ·obtain rfl:j=n:=by omega
  rw [Nat.sub_self] at hgo
  refine bg (decide_eq_false (by omega)) ⟨rfl,rfl,rfl,?_,?_⟩
  ·rw [←hgo];rfl
  ·rw [←hgo];rfl
def PInv (b0 b:Bs)(e:Int)(l:List Int):Prop:=l.length≤16∧((e=0∧¬0∈l∧iE (b.length+1) b l=ox b0)∨((¬e=0∨0∈l)∧ox b0=none))
def CS (b0:Bs)(L:Bs)(ez:Int):Prop:=∃l:List Int,L=iV l∧l.length≤16∧((ez=0∧¬0∈l∧ox b0=some l)∨((¬ez=0∨0∈l)∧ox b0=none))
def I7 (b0:Bs)(ex:Exit)(vs:List TV)(T:VT):Prop:=
 (∃(L bz:Bs) (az ez:Int),(IsB bz∧CS b0 L ez)∧ex=.normal∧vs=Ar L∧T=⟨[aG bz az ez],[(L.length,1,true)]⟩)∨
 (∃(rest:List VO) (tlz:List (Nat × Nat × Bool)) (Lz:Bs),ox b0=none∧ex=.ret∧vs=Ar Lz∧T=⟨rest,tlz⟩)
theorem I8 {b0:Bs}{K:KX}(hK:Rg (CS b0) (ox b0=none) K){ex:Exit}{vs:List TV}{T:VT}(h:I7 b0 ex vs T):K ex (aI 55 Aq vs) T []:=by
 rcases h with ⟨L,bz,az,ez,h1,rfl,rfl,rfl⟩ | ⟨rest,tlz,Lz,h1,rfl,rfl,rfl⟩
 ·exact hK.1 L bz az ez h1
 ·exact hK.2 rest tlz Lz h1
theorem PInv.ret {b0 b:Bs}{l:List Int}(h:PInv b0 b 0 l)(hn:iE (b.length+1) b l=none):ox b0=none:=by
 rcases h.2 with ⟨_,_,h3⟩ | ⟨_,h3⟩
 ·rw [←h3];exact hn
 ·exact h3
theorem PInv.step {b0 b:Bs}{l:List Int}(h:PInv b0 b 0 l)(hl:bC b 0>0)(hh:m6 b=true)(h16:l.length+(di b).toNat≤16)(a:Int):PInv b0 (co (di b).toNat (ld b,a,0,l)).1 (co (di b).toNat (ld b,a,0,l)).2.2.1 (co (di b).toNat (ld b,a,0,l)).2.2.2:=by
 have hln:∀(k:Nat) (s:pN),(co k s).2.2.2.length=s.2.2.2.length+k:=by
  intro k
  induction k with
  |zero=>intro s;rfl
  |succ k ih=>
   rintro ⟨b,a,e,l⟩
   simp only [co]
   rw [ih]
   simp only [length_append,length_cons,length_nil];omega
 refine ⟨by rw [hln];exact h16,?_⟩
 rcases h.2 with ⟨_,h2,h3⟩ | ⟨h2,h3⟩
 ·rcases I5 (di b).toNat (ld b) a l h16 with ⟨b',l',g1,g2,g3,g4,g5⟩ | ⟨g1,g2⟩
  ·refine .inl ⟨g3,by rw [g4];exact g5 h2,?_⟩
   rw [g2,g4,←I4 hl hh g1];exact h3
  ·exact .inr ⟨g2,by rw [←h3];exact tp hl g1⟩
 ·refine .inr ⟨.inr ?_,h3⟩
  rcases h2 with h2 | h2
  ·exact absurd rfl h2
  ·exact rt _ _ h2
theorem CT (s0:pN)(h0:IsB s0.1)(n:Int)(h1:0≤n)(hn:s0.2.2.2.length+n.toNat≤1000):dy prog ae (Rf s0.1 (co n.toNat s0).1 (iV s0.2.2.2) (iV (co n.toNat s0).2.2.2) s0.2.1 s0.2.2.1 (co n.toNat s0).2.1 (co n.toNat s0).2.2.1 n (aE prog jX 2)):=bO λp hp=>by
 obtain rfl:=mem_singleton.1 hp
 refine cd λK hK=> ?_
 have h:=I6 s0 h0 n.toNat hn K
 rw [show ((n.toNat:Nat):Int)=n by omega] at h
 exact h hK
theorem M0 {b:Bs}(hb:IsB b)(a e:Int)(k:Nat):VT.keep ⟨[aG b a e],[(k,1,true)]⟩ 1 1=⟨[aG b a e],[(k,1,true)]⟩:=by
 simp only [VT.keep,take_succ_cons,take_zero,map_cons,map_nil,bK hb]
theorem Vt {l:List Int}{n:Int}(hwr:wrap .i64 ((l.length:Int)+n)=(l.length:Int)+n)(h:decide (wrap .i64 (((iV l).length:Int)+n)>16)=true):(l.length:Int)+n>16:=by
 rw [qu,hwr] at h;exact of_decide_eq_true h
theorem Vu {l:List Int}{n:Int}(hwr:wrap .i64 ((l.length:Int)+n)=(l.length:Int)+n)(h:decide (wrap .i64 (((iV l).length:Int)+n)>16)=false):¬(l.length:Int)+n>16:=by
 rw [qu,hwr] at h;exact of_decide_eq_false h
theorem LU {b0:Bs}(h0:IsB b0)(K:KX)(hK:Rg (CS b0) (ox b0=none) K):VWx prog ae none 0 (aE prog jX 0) (aI 55 Aq (Ar [])) ⟨[aG b0 0 0],[(0,1,true)]⟩ [] K:=by
 let sl:pN→List TV:=λs=>Ar (iV s.2.2.2)
 let TT:pN→VT:=λs=>⟨[aG s.1 s.2.1 s.2.2.1],[((iV s.2.2.2).length,1,true)]⟩
 refine dM (f:=jX) (id:=0) (by kernel_rfl) 55 Aq (λs:pN=>s.1.length) sl TT (λs=>IsB s.1∧PInv b0 s.1 s.2.2.1 s.2.2.2) 1 1 (λ_ _=>⟨le_refl _,le_refl _⟩)
  (I7 b0) (λs hs=> ?_) (b0,0,0,[]) ⟨h0,⟨zero_le _,.inl ⟨rfl,by simp,rfl⟩⟩⟩ K (λe vs T h=>I8 hK h)
 obtain ⟨b,a,e,l⟩:=s
 obtain ⟨hb,hI⟩:=hs
 simp only at hb hI
 have hS:bu prog ae (aT [(kf,m4),(iD,lu .i64 1)]):=aZ λp hp=>by
  rcases mem_cons.1 hp with rfl | hp;exact oq
  obtain rfl:=mem_singleton.1 hp;exact qo
 by_cases hl:bC b e>0
 ·obtain ⟨rfl,_⟩:=IQ hl
  let S0:pN:=(ld b,bE 1 (ar 1 b 0) (au 1 b 0) (bE 1 b 0 a),EO b,l)
  have hnb:0≤di b∧di b<256:=Cz (aC hb) _
  have hnb2:0≤aN 1 (ar 1 b 0) (au 1 b 0)∧aN 1 (ar 1 b 0) (au 1 b 0)<256:=hnb
  have hl16:=hI.1
  have hwr:wrap .i64 ((l.length:Int)+di b)=(l.length:Int)+di b:=dE (by omega) (by omega)
  refine bU ac aa hS (CT S0 (CN hb) (di b) hnb.1 (show l.length+(di b).toNat≤1000 by omega)) (I2 b (ld b) (co (di b).toNat S0).1 (iV l) (iV (co (di b).toNat S0).2.2.2) a 0 (bE 1 (ar 1 b 0) (au 1 b 0) (bE 1 b 0 a)) (EO b) (co (di b).toNat S0).2.1 (co (di b).toNat S0).2.2.1 (di b) _) ?_
  refine ⟨⟨rfl,hb⟩,?_⟩
  refine bd (decide_eq_true hl) ⟨⟨rfl,hb⟩,⟨rfl,aC hb⟩,?_⟩
  refine am (λc1=> ?_) (λc1=> ?_)
  ·refine am (λc1b=> ?_) (λc1b=> ?_)
   ·have hH:m6 b=false:=by
     unfold m6 xC
     rw [decide_eq_false (show ¬aN 1 b 0=1 from fe c1),decide_eq_false (show ¬aN 1 b 0=2 from fe c1b)];rfl
    exact ⟨rfl,rfl,.inr ⟨_,_,iV l,hI.ret (wb hl hH),rfl,rfl,rfl⟩⟩
   ·have hC:(decide (xC b=1) || decide (xC b=2))=true:=by rw [decide_eq_true (show xC b=2 from fg c1b),Bool.or_true]
    refine am (λc2=> ?_) (λc2=> ?_)
    ·have hH:m6 b=false:=by unfold m6 di;rw [decide_eq_true (show aN 1 (ar 1 b 0) (au 1 b 0)=0 from dI c2)];simp
     exact ⟨rfl,rfl,.inr ⟨_,_,iV l,hI.ret (wb hl hH),rfl,rfl,rfl⟩⟩
    have d2:¬di b=0:=dl c2
    refine am (λc3=> ?_) (λc3=> ?_)
    ·have d3:(l.length:Int)+di b>16:=Vt hwr c3
     exact ⟨rfl,rfl,.inr ⟨_,_,iV l,hI.ret (tp hl (CP hI.1 (by omega))),rfl,rfl,rfl⟩⟩
    have d3:¬(l.length:Int)+di b>16:=Vu hwr c3
    have h16:l.length+(di b).toNat≤16:=by omega
    have hE:EO b=0:=I3 d2
    have hH:m6 b=true:=by unfold m6;rw [decide_eq_false d2,hC];rfl
    have hst:=hI.step hl hH h16 (bE 1 (ar 1 b 0) (au 1 b 0) (bE 1 b 0 a))
    have hps:co (di b).toNat (ld b,bE 1 (ar 1 b 0) (au 1 b 0) (bE 1 b 0 a),0,l)=co (di b).toNat S0:=by
     show co (di b).toNat (ld b,bE 1 (ar 1 b 0) (au 1 b 0) (bE 1 b 0 a),0,l)=co (di b).toNat (ld b,bE 1 (ar 1 b 0) (au 1 b 0) (bE 1 b 0 a),EO b,l)
     rw [hE]
    rw [hps] at hst
    obtain ⟨i1,i2,_⟩:=CQ (di b).toNat S0 (CN hb)
    have hlt:=xF hl
    refine ⟨rfl,⟨rfl,rfl,rfl,trivial,rfl,rfl,rfl⟩,rfl,rfl,co (di b).toNat S0,⟨i1,hst⟩,Nat.lt_of_le_of_lt i2 hlt,.inr ⟨?_,?_⟩⟩
    ·exact M0 i1 _ _ _
    ·have e2:=dW (ap 1) (ap 1) (co (di b).toNat S0).2.2.2
     simp only [aw,TV.ren,e2,Tok.ren]
     rfl
  ·have hC:(decide (xC b=1) || decide (xC b=2))=true:=by rw [decide_eq_true (show xC b=1 from fg c1),Bool.true_or]
   refine am (λc2=> ?_) (λc2=> ?_)
   ·have hH:m6 b=false:=by unfold m6 di;rw [decide_eq_true (show aN 1 (ar 1 b 0) (au 1 b 0)=0 from dI c2)];simp
    exact ⟨rfl,rfl,.inr ⟨_,_,iV l,hI.ret (wb hl hH),rfl,rfl,rfl⟩⟩
   have d2:¬di b=0:=dl c2
   refine am (λc3=> ?_) (λc3=> ?_)
   ·have d3:(l.length:Int)+di b>16:=Vt hwr c3
    exact ⟨rfl,rfl,.inr ⟨_,_,iV l,hI.ret (tp hl (CP hI.1 (by omega))),rfl,rfl,rfl⟩⟩
   have d3:¬(l.length:Int)+di b>16:=Vu hwr c3
   have h16:l.length+(di b).toNat≤16:=by omega
   have hE:EO b=0:=I3 d2
   have hH:m6 b=true:=by unfold m6;rw [decide_eq_false d2,hC];rfl
   have hst:=hI.step hl hH h16 (bE 1 (ar 1 b 0) (au 1 b 0) (bE 1 b 0 a))
   have hps:co (di b).toNat (ld b,bE 1 (ar 1 b 0) (au 1 b 0) (bE 1 b 0 a),0,l)=co (di b).toNat S0:=by
    show co (di b).toNat (ld b,bE 1 (ar 1 b 0) (au 1 b 0) (bE 1 b 0 a),0,l)=co (di b).toNat (ld b,bE 1 (ar 1 b 0) (au 1 b 0) (bE 1 b 0 a),EO b,l)
    rw [hE]
   rw [hps] at hst
   obtain ⟨i1,i2,_⟩:=CQ (di b).toNat S0 (CN hb)
   have hlt:=xF hl
   refine ⟨rfl,⟨rfl,rfl,rfl,trivial,rfl,rfl,rfl⟩,rfl,rfl,co (di b).toNat S0,⟨i1,hst⟩,Nat.lt_of_le_of_lt i2 hlt,.inr ⟨?_,?_⟩⟩
   ·exact M0 i1 _ _ _
   ·have e2:=dW (ap 1) (ap 1) (co (di b).toNat S0).2.2.2
    simp only [aw,TV.ren,e2,Tok.ren]
    rfl
 ·refine bU ac aa hS (CT (b,a,e,l) hb 0 (Int.le_refl _) (show l.length+0≤1000 by have:=hI.1;omega)) (I2 b b b (iV l) (iV l) a e a e a e 0 _) ?_
  refine ⟨⟨rfl,hb⟩,bg (decide_eq_false hl) ⟨rfl,rfl,.inl ⟨iV l,b,a,e,⟨hb,l,rfl,hI.1,?_⟩,rfl,rfl,rfl⟩⟩⟩
  rcases hI.2 with ⟨rfl,h2,h3⟩ | h
  ·exact .inl ⟨rfl,h2,by rw [←h3];exact LS hl⟩
  ·exact .inr h
theorem OP {b:Bs}(h:IsB b):dy prog ae (Vs b (CS b) (ox b=none) (aE prog jX 0)):=bO λp hp=>by
 obtain rfl:=mem_singleton.1 hp
 exact cd λK hK=>LU h K hK
theorem CU {b:Bs}(h:ox b=none):TVle (.tup [.val (.slice none 0 0),.val (.bool false)]) (xE b):=by
 unfold xE xD EP
 rw [h]
 exact .tup ⟨.nil 1,.refl _,trivial⟩
theorem OQ {b:Bs}{l:List Int}(h:ox b=some l)(tok:Tok):TVle (.tup [.vec 1 (iV l) tok,.val (.bool true)]) (xE b):=by
 unfold xE xD EP
 rw [h]
 exact .tup ⟨.vec 1 _ _,.refl _,trivial⟩
theorem Rn {b:Bs}(hb:IsB b):VCx prog ae 0 jX [.vec 1 b .none] ⟨[],[]⟩ λx T'=>x=xE b∧T'=⟨[],[]⟩:=by
 have hS:bu prog ae (aT [(ke,mA),(jc,lv),(I0,MZ)]):=aZ λp hp=>by
  rcases mem_cons.1 hp with rfl | hp;exact uH
  rcases mem_cons.1 hp with rfl | hp;exact qp
  obtain rfl:=mem_singleton.1 hp;exact Rm
 refine VCx.toLe (Q:=λT'=>T'=⟨[],[]⟩) (VCx.keepQ 0 0 (le_refl _) (le_refl _) (aj ac aa hS (OP hb) (Uy b (CS b) (ox b=none) _) ?_))
 refine ⟨hb,rfl,⟨rfl,rfl,rfl,⟨rfl,trivial⟩,rfl,rfl,rfl⟩,?_,λrest tlz Lz hN=>⟨CU hN,rfl⟩⟩
 rintro L bz az ez ⟨hbz,l,rfl,h16,hd⟩
 refine ⟨⟨rfl,hbz⟩,?_⟩
 refine am (λc1=> ?_) (λc1=> ?_)
 ·have he:=dI c1
  refine ⟨⟨l,rfl,by omega⟩,?_⟩
  rw [ER]
  rcases hd with ⟨_,h2,h3⟩ | ⟨h2,h3⟩
  ·rw [decide_eq_false h2]
   refine ⟨?_,rfl⟩
   simp only [TV.ren,aw,dW]
   exact OQ h3 _
  ·have h4:(0:Int)∈l:=by
    rcases h2 with h2 | h2
    ·exact absurd he h2
    ·exact h2
   rw [decide_eq_true h4]
   exact ⟨CU h3,rfl⟩
 ·have he:=dl c1
  rcases hd with ⟨h1,_,_⟩ | ⟨_,h3⟩
  ·exact absurd h1 he
  ·exact ⟨CU h3,rfl⟩
abbrev CV:=121
abbrev CW:=149
def CX:be:=λ_ ys T K=>match ys with
 |[.vec 1 v _,.val (.int .i64 0)]=>(IsB v∧vm 4 v)∧K (.tup [.val (.int .u32 (dD 4 v)),.val (.bool true)]) T
 |_=>False
def wc (a:Int):Bool:=av neq (aq (Value.int u32 a) (Value.int u32 (0:Int)))&&(av neq (aq (Value.int u32 a) (Value.int u32 (4294967295:Int)))&&(av neq (aq (Value.int u32 (fdiv a ((2:Int)^min (Int.toNat (24:Int)) (IntKind.bits u32)))) (Value.int u32 (127:Int)))&&av neq (aq (Value.int u32 (fdiv a ((2:Int)^min (Int.toNat (29:Int)) (IntKind.bits u32)))) (Value.int u32 (7:Int)))))
def ru (v:Bs):Bs:=iV (EP v)
def CY:be:=λ_ ys T K=>match ys with
 |[.val (.int .u32 a)]=>K (.val (.bool (wc a))) T
 |_=>False
def CZ:be:=λ_ ys T K=>match ys with
 |[.vec 1 v _]=>IsB v∧K (.tup [.vec 1 (ru v) .none,.val (.bool (xD v))]) T
 |_=>False
def m7 (o h m:Int)(hm:Bool)(x:TV):VO:=.cells [.val (.int .i64 o),x,.val (.int .u32 h),.val (.int .i64 m),.val (.bool hm)]
def lQ (fl t:Int)(v:Bs):TV:=.agg [.val (.int .i64 fl),.val (.int .i64 t),.vec 1 v .none]
theorem Ro (a:Int)(Q:TV→VT→Prop):ax prog ae bo aR 300 aU 0 CW [.val (.int .u32 a)] aD Q=
 (bif av neq (aq (Value.int u32 a) (Value.int u32 (0:Int)))
 then (bif av neq (aq (Value.int u32 a) (Value.int u32 (4294967295:Int)))
 then (bif av neq (aq (Value.int u32 (fdiv a ((2:Int)^min (Int.toNat (24:Int)) (IntKind.bits u32)))) (Value.int u32 (127:Int)))
 then Q (mB (av neq (aq (Value.int u32 (fdiv a ((2:Int)^min (Int.toNat (29:Int)) (IntKind.bits u32)))) (Value.int u32 (7:Int))))) aD
 else Q ak aD)
 else Q ak aD)
 else Q ak aD):=by kernel_rfl
abbrev lR:VO:=(Uq (.fn (.func 146) [] [(.ptr 2 0)]))
abbrev GZ:VO:=(GO (.fn (.func 145) [] [(.ptr 2 0)]))
abbrev Bi:VO:=(GN (.fn (.func 148) [] [(.ptr 2 0)]))
abbrev lf:VO:=(Up (.fn (.func 150) [] [(.ptr 2 0)]))
theorem Rp (o h m fl t:Int)(hm:Bool)(x:TV)(Q:TV→VT→Prop):ax prog ae (aT [(jX,CZ),(uG,CX),(CW,CY)]) (bB [(999999,.dead,none)]) 300 aU 0 CV [.ptr 0 0,lQ fl t []] (cw (m7 o h m hm x)) Q=
 (bif av eql (k6 t (1:Int))
 then (bif av neq (k6 (wrap i64 (↑(toNat (ofInt (IntKind.bits i64) fl&&&~~~ofInt (IntKind.bits i64) (16:Int))):Int)) (64:Int))
 then Q lb ⟨[(gg o x h m hm),(la fl t),b7,GZ,GZ],[]⟩
 else Q uD ⟨[(gg o x h m hm),(la fl t),b7,GZ,GZ],[]⟩)
 else (bif av eql (k6 t (2:Int))
 then (bif av neq (k6 (wrap i64 (↑(toNat (ofInt (IntKind.bits i64) fl&&&~~~ofInt (IntKind.bits i64) (16:Int))):Int)) (64:Int))
 then Q lb ⟨[(gg o x h m hm),(la fl t),b7,lR,lR],[]⟩
 else (IsB []∧
 (bif !xD []
 then Q (.val (.int .i64 11)) ⟨[(gg o x h m hm),(la fl t),b7,lR,lR],[]⟩
 else Q aB ⟨[(Ac o (ru []) h m hm),(la fl t),b7,lR,lR],[]⟩)))
 else (bif av eql (k6 t (3:Int))
 then (bif av neq (k6 (wrap i64 (↑(toNat (ofInt (IntKind.bits i64) fl&&&~~~ofInt (IntKind.bits i64) (16:Int))):Int)) (64:Int))
 then Q lb ⟨[(gg o x h m hm),(la fl t),b7,Bi,Bi],[]⟩
 else Q uD ⟨[(gg o x h m hm),(la fl t),b7,Bi,Bi],[]⟩)
 else (bif av eql (k6 t (4:Int))
 then (bif av neq (k6 (wrap i64 (↑(toNat (ofInt (IntKind.bits i64) fl&&&~~~ofInt (IntKind.bits i64) (16:Int))):Int)) (128:Int))
 then Q lb ⟨[(gg o x h m hm),(la fl t),b7,lf,lf],[]⟩
 else Q uD ⟨[(gg o x h m hm),(la fl t),b7,lf,lf],[]⟩)
 else (bif av eql (k6 (wrap i64 (↑(toNat (ofInt (IntKind.bits i64) fl&&&ofInt (IntKind.bits i64) (128:Int))):Int)) (0:Int))
 then Q ei ⟨[(gg o x h m hm),(la fl t),b7,(pk (.val .nilFunc)),(pk (.val .nilFunc))],[]⟩
 else Q aB ⟨[(gg o x h m hm),(la fl t),b7,(pk (.val .nilFunc)),(pk (.val .nilFunc))],[]⟩))))):=by kernel_rfl
abbrev np (fl:Int)(t:Int)(z:Int)(w:Bs):VO:=(jG fl t ([[(.val (.int .u8 (z)))]]++w))
abbrev G0 (z:Int)(x:TV)(h:Int)(m:Int)(hm:Bool)(fl:Int)(t:Int)(w:Bs):VT:=(MP (wrap i64 z) x h m hm fl t ([[(.val (.int .u8 (z)))]]++w) (.fn (.func 145) [] [(.ptr 2 0)]) (.fn (.func 145) [] [(.ptr 2 0)]))
abbrev G1 (o:Int)(x:TV)(z:Int)(w:Bs)(m:Int)(hm:Bool)(fl:Int)(t:Int):VT:=(MO o x (dD (4:Int) (bT z::w)) m hm fl t ([[(.val (.int .u8 (z)))]]++w) (.fn (.func 148) [] [(.ptr 2 0)]) (.fn (.func 148) [] [(.ptr 2 0)]))
abbrev G3 (o:Int)(x:TV)(h:Int)(m:Int)(hm:Bool)(fl:Int)(t:Int)(z:Int)(w:Bs):VT:=(MP o x h m hm fl t ([[(.val (.int .u8 (z)))]]++w) (.fn (.func 145) [] [(.ptr 2 0)]) (.fn (.func 145) [] [(.ptr 2 0)]))
abbrev G4 (o:Int)(x:TV)(h:Int)(m:Int)(hm:Bool)(fl:Int)(t:Int)(z:Int)(w:Bs):VT:=(MO o x h m hm fl t ([[(.val (.int .u8 (z)))]]++w) (.fn (.func 148) [] [(.ptr 2 0)]) (.fn (.func 148) [] [(.ptr 2 0)]))
theorem Rq (o h m fl t z:Int)(hm:Bool)(x:TV)(w:Bs)(Q:TV→VT→Prop):ax prog ae (aT [(jX,CZ),(uG,CX),(CW,CY)]) (bB [(999999,.dead,none)]) 300 aU 0 CV [.ptr 0 0,lQ fl t (bT z::w)] (cw (m7 o h m hm x)) Q=
 (bif av eql (k6 t (1:Int))
 then (bif av neq (k6 (wrap i64 (↑(toNat (ofInt (IntKind.bits i64) fl&&&~~~ofInt (IntKind.bits i64) (16:Int))):Int)) (64:Int))
 then Q lb (G3 o x h m hm fl t z w)
 else (bif av neq (k6 (↑(length (bT z::w)):Int) (1:Int))
 then Q uD (G3 o x h m hm fl t z w)
 else (bif decide (wrap i64 z>(2:Int))
 then Q La (G0 z x h m hm fl t w)
 else Q aB (G0 z x h m hm fl t w))))
 else (bif av eql (k6 t (2:Int))
 then (bif av neq (k6 (wrap i64 (↑(toNat (ofInt (IntKind.bits i64) fl&&&~~~ofInt (IntKind.bits i64) (16:Int))):Int)) (64:Int))
 then Q lb ⟨[(gg o x h m hm),(np fl t z w),b7,lR,lR],[]⟩
 else (IsB ([(gW z)]++w)∧
 (bif !xD (bT z::w)
 then Q (.val (.int .i64 11)) ⟨[(gg o x h m hm),(np fl t z w),b7,lR,lR],[]⟩
 else Q aB ⟨[(Ac o (ru (bT z::w)) h m hm),(np fl t z w),b7,lR,lR],[]⟩)))
 else (bif av eql (k6 t (3:Int))
 then (bif av neq (k6 (wrap i64 (↑(toNat (ofInt (IntKind.bits i64) fl&&&~~~ofInt (IntKind.bits i64) (16:Int))):Int)) (64:Int))
 then Q lb (G4 o x h m hm fl t z w)
 else (bif av neq (k6 (↑(length (bT z::w)):Int) (4:Int))
 then Q uD (G4 o x h m hm fl t z w)
 else ((IsB ([(gW z)]++w)∧
 vm 4 ([(gW z)]++w))∧
 (bif !wc (dD (4:Int) (bT z::w))
 then Q (.val (.int .i64 8)) (G1 o x z w m hm fl t)
 else Q aB (G1 o x z w m hm fl t)))))
 else (bif av eql (k6 t (4:Int))
 then (bif av neq (k6 (wrap i64 (↑(toNat (ofInt (IntKind.bits i64) fl&&&~~~ofInt (IntKind.bits i64) (16:Int))):Int)) (128:Int))
 then Q lb ⟨[(gg o x h m hm),(np fl t z w),b7,lf,lf],[]⟩
 else (bif av neq (k6 (↑(length (bT z::w)):Int) (4:Int))
 then Q uD ⟨[(gg o x h m hm),(np fl t z w),b7,lf,lf],[]⟩
 else ((IsB ([(gW z)]++w)∧
 vm 4 ([(gW z)]++w))∧
 Q aB ⟨[(.cells [(ah o),x,(jb h),(ah (wrap i64 (dD (4:Int) (bT z::w)))),aF]),(np fl t z w),b7,lf,lf],[]⟩)))
 else (bif av eql (k6 (wrap i64 (↑(toNat (ofInt (IntKind.bits i64) fl&&&ofInt (IntKind.bits i64) (128:Int))):Int)) (0:Int))
 then Q ei ⟨[(gg o x h m hm),(np fl t z w),b7,(pk (.val .nilFunc)),(pk (.val .nilFunc))],[]⟩
 else Q aB ⟨[(gg o x h m hm),(np fl t z w),b7,(pk (.val .nilFunc)),(pk (.val .nilFunc))],[]⟩))))):=by kernel_rfl
theorem OS (a:Int):VCx prog ae 0 CW [.val (.int .u32 a)] ⟨[],[]⟩ λx T'=>x=.val (.bool (wc a))∧T'=⟨[],[]⟩:=by
 refine aj ac aa ai ag (Ro a _) ?_
 unfold wc
 refine am (λc1=> ?_) (λc1=> ?_)
 ·refine am (λc2=> ?_) (λc2=> ?_)
  ·refine am (λc3=> ?_) (λc3=> ?_)
   ·rw [c1,c2,c3,Bool.true_and,Bool.true_and,Bool.true_and];exact ⟨rfl,rfl⟩
   ·rw [c1,c2,c3,Bool.true_and,Bool.true_and,Bool.false_and];exact ⟨rfl,rfl⟩
  ·rw [c1,c2,Bool.true_and,Bool.false_and];exact ⟨rfl,rfl⟩
 ·rw [c1,Bool.false_and];exact ⟨rfl,rfl⟩
theorem OT {f:FuncId}(h:∀a,VCx prog ae 0 f [.val (.int .u32 a)] ⟨[],[]⟩ λx T'=>x=.val (.bool (wc a))∧T'=⟨[],[]⟩):∀ro ys T K,CY ro ys T K→VCx prog ae ro f ys T K:=by
 intro ro ys T K hw
 unfold CY at hw
 split at hw
 ·exact VCx.liftPure aV (h _) rfl (λ_ _=>rfl) hw
 ·exact hw.elim
theorem OU (b:Bs)(f g:Nat→Option Nat):(xE b).ren f g=xE b:=by
 simp only [xE,TV.ren,aw,dW,Tok.ren]
theorem OV {f:FuncId}(h:∀b,IsB b→VCx prog ae 0 f [.vec 1 b .none] ⟨[],[]⟩ λx T'=>x=xE b∧T'=⟨[],[]⟩):∀ro ys T K,CZ ro ys T K→VCx prog ae ro f ys T K:=by
 intro ro ys T K hw
 unfold CZ at hw
 split at hw
 ·rename_i v tok
  exact VCx.loosePure aV (h v hw.1) (by simp [ea]) (by simp [aw,TV.ren,hw.1.ren,Tok.ren]) (λf h=>OU v f h) hw.2
 ·exact hw.elim
theorem OW {v:Bs}(hv:IsB v)(hl:vm 4 v):VCx prog ae 0 uG [.vec 1 v .none,.val (.int .i64 0)] ⟨[],[]⟩ λx T'=>x=.tup [.val (.int .u32 (dD 4 v)),.val (.bool true)]∧T'=⟨[],[]⟩:=by
 have hs:=hv.small
 have hl2:(4:Int)≤v.length:=hl
 refine aj ac aa (aZ λp hp=>by obtain rfl:=mem_singleton.1 hp;exact EH) ag (N6 v _) ?_
 rw [dE (z:=(v.length:Int)-4) (by omega) (by omega)]
 have hg:0≤dD 4 v∧dD 4 v<4294967296:=by
  obtain ⟨⟨l,hl3,hz⟩,_⟩:=hv.take 4
  have hlen:l.length=4:=by
   have:=congrArg length hl3
   simp only [bV,length_map,length_take] at this
   omega
  have h:=sU hz
  rw [hlen] at h
  unfold dD
  rw [show (4:Int).toNat=4 from rfl,hl3]
  exact ⟨h.1,Int.lt_of_lt_of_le h.2 (by decide)⟩
 have hw:wrap .u32 (dD 4 v)=dD 4 v:=by
  generalize dD 4 v=y at hg
  simp only [wrap,IntKind.bits,signed];simp;omega
 refine bg (by rw [decide_eq_true (show (0:Int)≤(v.length:Int)-4 by omega)];rfl) ⟨?_,⟨hv,⟨by decide,by decide⟩,hl⟩,by rw [hw],rfl⟩
 have h:=Ad (x:=.tmp 10) (i:=.tmp 11) (l:= [(10,.vec 1 v .none),(11,.val (.int .i64 0))]) (b:=v) (tok:=.none) (k:=.i64) (z:=0) (n:=0) rfl rfl (Int.le_refl _) rfl (zero_le _)
 rwa [List.drop_zero] at h
theorem OX:∀ro ys T K,CX ro ys T K→VCx prog ae ro uG ys T K:=by
 intro ro ys T K hw
 unfold CX at hw
 split at hw
 ·rename_i v tok
  obtain ⟨⟨hv,hl⟩,hk⟩:=hw
  exact VCx.loosePure aV (OW hv hl) (by simp [ea]) (by simp [aw,TV.ren,hv.ren,Tok.ren]) (λf h=>rfl) hk
 ·exact hw.elim
def kJ (fl:Int):Int:=wrap i64 (toNat (ofInt (IntKind.bits i64) fl&&&~~~ofInt (IntKind.bits i64) (16:Int)):Nat)
def I9 (fl:Int):Bool:=av eql (aq (Value.int i64 (wrap i64 (toNat (ofInt (IntKind.bits i64) fl&&&ofInt (IntKind.bits i64) (128:Int)):Nat))) (Value.int i64 (0:Int)))
def dx (fl t:Int)(v:Bs):Int:=
 if t=1 then (if ¬kJ fl=64 then 4 else if ¬(v.length:Int)=1 then 5 else if dD 1 v>2 then 6 else 0)
 else if t=2 then (if ¬kJ fl=64 then 4 else bif xD v then 0 else 11)
 else if t=3 then (if ¬kJ fl=64 then 4 else if ¬(v.length:Int)=4 then 5 else bif wc (dD 4 v) then 0 else 8)
 else if t=4 then (if ¬kJ fl=128 then 4 else if ¬(v.length:Int)=4 then 5 else 0)
 else bif I9 fl then 2 else 0
def m8 (o h m:Int)(hm:Bool)(x:TV)(t:Int)(v:Bs):VO:=
 if t=1 then m7 (dD 1 v) h m hm x else if t=2 then m7 o h m hm (.vec 1 (ru v) .none) else if t=3 then m7 o (dD 4 v) m hm x else if t=4 then m7 o h (dD 4 v) true x else m7 o h m hm x
def xG (o h m:Int)(hm:Bool)(x:TV)(fl t:Int)(v:Bs)(y:TV)(T':VT):Prop:=y=.val (.int .i64 (dx fl t v))∧∃O,T'=⟨[O],[]⟩∧(dx fl t v=0→O=m8 o h m hm x t v)
section
variable {o h m fl t s:Int}{hm:Bool}{x:TV}{v:Bs}{O:VO}{l:List VO}
theorem dF (hs:dx fl t v=s)(hne:¬s=0):xG o h m hm x fl t v (.val (.int .i64 s)) (VT.keep ⟨O::l,[]⟩ 1 0):=⟨by rw [hs],_,rfl,λh=>absurd (hs.symm.trans h) hne⟩
theorem lS (hs:dx fl t v=0)(hO:O=m8 o h m hm x t v)(hr:O.ren (ap 1) (ap 0)=O):xG o h m hm x fl t v (.val (.int .i64 0)) (VT.keep ⟨O::l,[]⟩ 1 0):=⟨by rw [hs],_,rfl,λ_=>by rw [←hO];exact hr⟩
end
theorem eK {o h m:Int}{hm:Bool}{x:TV}(hx:∀f g,x.ren f g=x)(f g:Nat→Option Nat):(m7 o h m hm x).ren f g=m7 o h m hm x:=by
 simp only [m7,VO.ren,aw,TV.ren,hx]
theorem wd (v:Bs)(f g:Nat→Option Nat):(TV.vec 1 (ru v) .none).ren f g=.vec 1 (ru v) .none:=by
 simp only [TV.ren,ru,dW,Tok.ren]
theorem Wa {v:Bs}(hv:IsB v)(hl:(v.length:Int)=4):0≤dD 4 v∧dD 4 v<4294967296:=by
 obtain ⟨⟨l,hl3,hz⟩,_⟩:=hv.take 4
 have hlen:l.length=4:=by
  have:=congrArg length hl3
  simp only [bV,length_map,length_take] at this
  omega
 have h:=sU hz
 rw [hlen] at h
 unfold dD
 rw [show (4:Int).toNat=4 from rfl,hl3]
 exact ⟨h.1,Int.lt_of_lt_of_le h.2 (by decide)⟩
theorem Wb (z:Int)(w:Bs):dD 1 (bT z::w)=z:=by
 show (0:Int)*256+z=z
 omega
theorem M1:bu prog ae (aT [(jX,CZ),(uG,CX),(CW,CY)]):=aZ λp hp=>by
 rcases mem_cons.1 hp with rfl | hp;exact OV λ_ h=>Rn h
 rcases mem_cons.1 hp with rfl | hp;exact OX
 obtain rfl:=mem_singleton.1 hp;exact OT OS
theorem OY (o h m fl t:Int)(hm:Bool){x:TV}(hx:∀f g,x.ren f g=x){v:Bs}(hv:IsB v):VCx prog ae 0 CV [.ptr 0 0,lQ fl t v] ⟨[m7 o h m hm x],[]⟩ (xG o h m hm x fl t v):=by
 refine VCx.keepQ 1 0 (le_refl _) (le_refl _) ?_
 cases v with
 |nil=>
  refine aj ac aa M1 ag (Rp o h m fl t hm x _) ?_
  refine am (λa1=> ?_) (λa1=> ?_)
  ·replace a1:=dI a1
   refine am (λf1=> ?_) (λf1=> ?_)
   ·exact dF (by unfold dx;rw [if_pos a1,if_pos (show ¬kJ fl=64 from fe f1)]) (by decide)
   replace f1:kJ fl=64:=fg f1
   exact dF (by unfold dx;rw [if_pos a1,if_neg (λc=>c f1),if_pos (by decide)]) (by decide)
  replace a1:=dl a1
  refine am (λa2=> ?_) (λa2=> ?_)
  ·replace a2:=dI a2
   refine am (λf1=> ?_) (λf1=> ?_)
   ·exact dF (by unfold dx;rw [if_neg a1,if_pos a2,if_pos (show ¬kJ fl=64 from fe f1)]) (by decide)
   replace f1:kJ fl=64:=fg f1
   refine ⟨hv,?_⟩
   cases hh:xD []
   ·exact dF (by unfold dx;rw [if_neg a1,if_pos a2,if_neg (λc=>c f1),hh];rfl) (by decide)
   ·exact lS (by unfold dx;rw [if_neg a1,if_pos a2,if_neg (λc=>c f1),hh];rfl) (by unfold m8;rw [if_neg a1,if_pos a2];rfl) (eK (wd _) _ _)
  replace a2:=dl a2
  refine am (λa3=> ?_) (λa3=> ?_)
  ·replace a3:=dI a3
   refine am (λf1=> ?_) (λf1=> ?_)
   ·exact dF (by unfold dx;rw [if_neg a1,if_neg a2,if_pos a3,if_pos (show ¬kJ fl=64 from fe f1)]) (by decide)
   replace f1:kJ fl=64:=fg f1
   exact dF (by unfold dx;rw [if_neg a1,if_neg a2,if_pos a3,if_neg (λc=>c f1),if_pos (by decide)]) (by decide)
  replace a3:=dl a3
  refine am (λa4=> ?_) (λa4=> ?_)
  ·replace a4:=dI a4
   refine am (λf1=> ?_) (λf1=> ?_)
   ·exact dF (by unfold dx;rw [if_neg a1,if_neg a2,if_neg a3,if_pos a4,if_pos (show ¬kJ fl=128 from fe f1)]) (by decide)
   replace f1:kJ fl=128:=fg f1
   exact dF (by unfold dx;rw [if_neg a1,if_neg a2,if_neg a3,if_pos a4,if_neg (λc=>c f1),if_pos (by decide)]) (by decide)
  replace a4:=dl a4
  refine am (λa5=> ?_) (λa5=> ?_)
  ·exact dF (by unfold dx;rw [if_neg a1,if_neg a2,if_neg a3,if_neg a4,show I9 fl=true from a5];rfl) (by decide)
  ·exact lS (by unfold dx;rw [if_neg a1,if_neg a2,if_neg a3,if_neg a4,show I9 fl=false from a5];rfl) (by unfold m8;rw [if_neg a1,if_neg a2,if_neg a3,if_neg a4];rfl) (eK hx _ _)
 |cons r w=>
  obtain ⟨z,rfl,hz0,hz1⟩:=hv.at (j:=0) (r:=r) rfl
  refine aj ac aa M1 ag (Rq o h m fl t z hm x w _) ?_
  refine am (λa1=> ?_) (λa1=> ?_)
  ·replace a1:=dI a1
   refine am (λf1=> ?_) (λf1=> ?_)
   ·exact dF (by unfold dx;rw [if_pos a1,if_pos (show ¬kJ fl=64 from fe f1)]) (by decide)
   replace f1:kJ fl=64:=fg f1
   refine am (λb1=> ?_) (λb1=> ?_)
   ·exact dF (by unfold dx;rw [if_pos a1,if_neg (λc=>c f1),if_pos (show ¬(((bT z::w).length:Nat):Int)=1 from fe b1)]) (by decide)
   have g1:(((bT z::w).length:Nat):Int)=1:=fg b1
   have hz:z=dD 1 (bT z::w):=(Wb z w).symm
   have hwz:wrap .i64 z=z:=dE (by omega) (by omega)
   try delta lf np G0 G1 G3 G4 lR
   rw [hwz]
   refine am (λb2=> ?_) (λb2=> ?_)
   ·exact dF (by unfold dx;rw [if_pos a1,if_neg (λc=>c f1),if_neg (λc=>c g1),if_pos (by rw [←hz];exact of_decide_eq_true b2)]) (by decide)
   ·exact lS (by unfold dx;rw [if_pos a1,if_neg (λc=>c f1),if_neg (λc=>c g1),if_neg (by rw [←hz];exact of_decide_eq_false b2)]) (by unfold m8;rw [if_pos a1,←hz];rfl) (eK hx _ _)
  replace a1:=dl a1
  refine am (λa2=> ?_) (λa2=> ?_)
  ·replace a2:=dI a2
   refine am (λf1=> ?_) (λf1=> ?_)
   ·exact dF (by unfold dx;rw [if_neg a1,if_pos a2,if_pos (show ¬kJ fl=64 from fe f1)]) (by decide)
   replace f1:kJ fl=64:=fg f1
   refine ⟨hv,?_⟩
   cases hh:xD (bT z::w)
   ·exact dF (by unfold dx;rw [if_neg a1,if_pos a2,if_neg (λc=>c f1),hh];rfl) (by decide)
   ·exact lS (by unfold dx;rw [if_neg a1,if_pos a2,if_neg (λc=>c f1),hh];rfl) (by unfold m8;rw [if_neg a1,if_pos a2];rfl) (eK (wd _) _ _)
  replace a2:=dl a2
  refine am (λa3=> ?_) (λa3=> ?_)
  ·replace a3:=dI a3
   refine am (λf1=> ?_) (λf1=> ?_)
   ·exact dF (by unfold dx;rw [if_neg a1,if_neg a2,if_pos a3,if_pos (show ¬kJ fl=64 from fe f1)]) (by decide)
   replace f1:kJ fl=64:=fg f1
   refine am (λb1=> ?_) (λb1=> ?_)
   ·exact dF (by unfold dx;rw [if_neg a1,if_neg a2,if_pos a3,if_neg (λc=>c f1),if_pos (show ¬(((bT z::w).length:Nat):Int)=4 from fe b1)]) (by decide)
   have g1:(((bT z::w).length:Nat):Int)=4:=fg b1
   refine ⟨⟨hv,show (4:Int)≤(((bT z::w).length:Nat):Int) from by omega⟩,?_⟩
   cases hh:wc (dD 4 (bT z::w))
   ·exact dF (by unfold dx;rw [if_neg a1,if_neg a2,if_pos a3,if_neg (λc=>c f1),if_neg (λc=>c g1),hh];rfl) (by decide)
   ·exact lS (by unfold dx;rw [if_neg a1,if_neg a2,if_pos a3,if_neg (λc=>c f1),if_neg (λc=>c g1),hh];rfl) (by unfold m8;rw [if_neg a1,if_neg a2,if_pos a3];rfl) (eK hx _ _)
  replace a3:=dl a3
  refine am (λa4=> ?_) (λa4=> ?_)
  ·replace a4:=dI a4
   refine am (λf1=> ?_) (λf1=> ?_)
   ·exact dF (by unfold dx;rw [if_neg a1,if_neg a2,if_neg a3,if_pos a4,if_pos (show ¬kJ fl=128 from fe f1)]) (by decide)
   replace f1:kJ fl=128:=fg f1
   refine am (λb1=> ?_) (λb1=> ?_)
   ·exact dF (by unfold dx;rw [if_neg a1,if_neg a2,if_neg a3,if_pos a4,if_neg (λc=>c f1),if_pos (show ¬(((bT z::w).length:Nat):Int)=4 from fe b1)]) (by decide)
   have g1:(((bT z::w).length:Nat):Int)=4:=fg b1
   refine ⟨⟨hv,show (4:Int)≤(((bT z::w).length:Nat):Int) from by omega⟩,?_⟩
   obtain ⟨e1,e2⟩:=Wa hv g1
   have hw4:wrap .i64 (dD 4 (bT z::w))=dD 4 (bT z::w):=dE (by omega) (by omega)
   rw [hw4]
   exact lS (by unfold dx;rw [if_neg a1,if_neg a2,if_neg a3,if_pos a4,if_neg (λc=>c f1),if_neg (λc=>c g1)]) (by unfold m8;rw [if_neg a1,if_neg a2,if_neg a3,if_pos a4];rfl) (eK hx _ _)
  replace a4:=dl a4
  refine am (λa5=> ?_) (λa5=> ?_)
  ·exact dF (by unfold dx;rw [if_neg a1,if_neg a2,if_neg a3,if_neg a4,show I9 fl=true from a5];rfl) (by decide)
  ·exact lS (by unfold dx;rw [if_neg a1,if_neg a2,if_neg a3,if_neg a4,show I9 fl=false from a5];rfl) (by unfold m8;rw [if_neg a1,if_neg a2,if_neg a3,if_neg a4];rfl) (eK hx _ _)
section
variable {P:Program}{G:aP}
theorem Ef {ro:Nat}{T:VT}{t e tx:TypeId}{s x:Operand}{l:List (Nat × TV)}{inf:TypeInfo}{z:Value}{q0:List TV}{qs:List (List TV)}{tok:Tok}{id n:Nat}{cs:List TV}(ht:P.underlying t=some (.slice e))(hi:P.info? e=some inf)(hz:inf.zero=some z)(hzs:z.cells.size=inf.size)(hz1:z.cells.toList.all oneCell'=true)
  (hsl:fD (P.underlying tx)=true) (hs:aA G l s=.row inf.size id 0 n) (ho:T.objs[id]?=some (.row cs)) (hro:ro≤id) (hn:n*inf.size≤cs.length) (hx:aA G l x=.vec inf.size (q0::qs) tok) (hb:(n+(q0::qs).length)*(inf.bytes+1)≤140737488355328):
  bp P G ro T (.call ⟨.builtin .append,#[s,x],#[t,tx]⟩) l (.row inf.size T.objs.length 0 (n+(q0::qs).length)) ((T.kill id).newRow (cs.take (n*inf.size)++(q0::qs).flatten)):=by
 refine .mk ?_
 have h1:aW P (.call ⟨.builtin .append,#[s,x],#[t,tx]⟩) (aA G l)=none:=by simp [aW,cN]
 have h2:aY P T (.call ⟨.builtin .append,#[s,x],#[t,tx]⟩) (aA G l)=none:=by simp [aY,cM,gv]
 have hr:bL T inf.size (.vec inf.size (q0::qs) tok)=some (q0::qs):=by simp [bL,beq_refl]
 have h4:jx P T t tx (.row inf.size id 0 n) (.vec inf.size (q0::qs) tok)=none:=by simp [jx,ht]
 have h3:ju P ro T t tx (.row inf.size id 0 n) (.vec inf.size (q0::qs) tok)=some (.row inf.size T.objs.length 0 (n+(q0::qs).length),(T.kill id).newRow (cs.take (n*inf.size)++(q0::qs).flatten)):=by
  unfold ju
  simp only [ht,hi,hz,hr,hzs,decide_true,hz1,hsl,Bool.and_self,cond_true,beq_refl,ho,Nat.ble_eq_true_of_le hro,Nat.ble_eq_true_of_le hn,Nat.ble_eq_true_of_le hb]
 have h5:oY P ro T t tx (.row inf.size id 0 n) (.vec inf.size (q0::qs) tok)=none:=rfl
 simp only [dZ,h1,h2,gR,hs,hx,hsl,h4,h5,h3,cond_true]
end
abbrev we:=122
def UA (W:List TV)(T:VT):VT:=(T.kill (T.objs.length-1)).newRow ((match T.objs[T.objs.length-1]? with
 |some (.row cs)=>cs
 |_=> [])++W)
theorem OZ (fl t:Int)(Q:TV→VT→Prop):ax prog ae bo (bB [(999999,.dead,none)]) 300 aU 0 we [lQ fl t []] ⟨[],[]⟩ Q=
 (bif av neq (aq (Value.int i64 (wrap i64 (↑(toNat (ofInt (IntKind.bits i64) fl&&&ofInt (IntKind.bits i64) (16:Int))):Int))) (Value.int i64 (0:Int)))
 then Q (.row 1 7 0 4) ⟨[(.cells [(.val (.int .i64 (fl))),(.val (.int .i64 (t))),(.vec 1 [] .none)]),.gone,(.row [(.val (.int .u8 (wrap u8 (fdiv (wrap u64 fl) ((2:Int)^min (Int.toNat (wrap i64 ((8:Int)*wrap i64 ((1:Int)-(1:Int))))) (IntKind.bits u64))))))]),.gone,(.row [(.val (.int .u8 (wrap u8 (fdiv (wrap u64 fl) ((2:Int)^min (Int.toNat (wrap i64 ((8:Int)*wrap i64 ((1:Int)-(1:Int))))) (IntKind.bits u64)))))),(.val (.int .u8 (wrap u8 (fdiv (wrap u64 t) ((2:Int)^min (Int.toNat (wrap i64 ((8:Int)*wrap i64 ((1:Int)-(1:Int))))) (IntKind.bits u64))))))]),.gone,.gone,(.row [(.val (.int .u8 (wrap u8 (fdiv (wrap u64 fl) ((2:Int)^min (Int.toNat (wrap i64 ((8:Int)*wrap i64 ((1:Int)-(1:Int))))) (IntKind.bits u64)))))),(.val (.int .u8 (wrap u8 (fdiv (wrap u64 t) ((2:Int)^min (Int.toNat (wrap i64 ((8:Int)*wrap i64 ((1:Int)-(1:Int))))) (IntKind.bits u64)))))),(.val (.int .u8 0)),(.val (.int .u8 0))])],[]⟩
 else Q (.row 1 6 0 3) ⟨[(.cells [(.val (.int .i64 (fl))),(.val (.int .i64 (t))),(.vec 1 [] .none)]),.gone,(.row [(.val (.int .u8 (wrap u8 (fdiv (wrap u64 fl) ((2:Int)^min (Int.toNat (wrap i64 ((8:Int)*wrap i64 ((1:Int)-(1:Int))))) (IntKind.bits u64))))))]),.gone,(.row [(.val (.int .u8 (wrap u8 (fdiv (wrap u64 fl) ((2:Int)^min (Int.toNat (wrap i64 ((8:Int)*wrap i64 ((1:Int)-(1:Int))))) (IntKind.bits u64)))))),(.val (.int .u8 (wrap u8 (fdiv (wrap u64 t) ((2:Int)^min (Int.toNat (wrap i64 ((8:Int)*wrap i64 ((1:Int)-(1:Int))))) (IntKind.bits u64))))))]),.gone,(.row [(.val (.int .u8 (wrap u8 (fdiv (wrap u64 fl) ((2:Int)^min (Int.toNat (wrap i64 ((8:Int)*wrap i64 ((1:Int)-(1:Int))))) (IntKind.bits u64)))))),(.val (.int .u8 (wrap u8 (fdiv (wrap u64 t) ((2:Int)^min (Int.toNat (wrap i64 ((8:Int)*wrap i64 ((1:Int)-(1:Int))))) (IntKind.bits u64)))))),(.val (.int .u8 0))])],[]⟩):=by kernel_rfl
theorem Rr (fl t:Int)(v w:Bs)(W:List TV)(K N:Nat)(Q:TV→VT→Prop):ax prog ae bo (bB [(999999,.dead,none),(33,.vec 1 w .none,none),(34,.row 1 K 0 N,some (UA W))]) 300 aU 0 we [lQ fl t v] ⟨[],[]⟩ Q=
 (bif av neq (aq (Value.int i64 (wrap i64 (↑(toNat (ofInt (IntKind.bits i64) fl&&&ofInt (IntKind.bits i64) (16:Int))):Int))) (Value.int i64 (0:Int)))
 then (aS prog (λ_=>.none) (.slice 22 (.tmp 31) .none (.some (.tmp 32)) .none) [(31,(.vec 1 (v) .none)),(32,(.val (.int .i64 (if (65535:Int)<(↑(length v):Int) then (65535:Int) else (↑(length v):Int)))))] (.vec 1 (w) .none)∧
 (bp prog (λ_=>.none) 0 ⟨[(.cells [(.val (.int .i64 (fl))),(.val (.int .i64 (t))),(.vec 1 (v) .none)]),.gone,(.row [(.val (.int .u8 (wrap u8 (fdiv (wrap u64 fl) ((2:Int)^min (Int.toNat (wrap i64 ((8:Int)*wrap i64 ((1:Int)-(1:Int))))) (IntKind.bits u64))))))]),.gone,(.row [(.val (.int .u8 (wrap u8 (fdiv (wrap u64 fl) ((2:Int)^min (Int.toNat (wrap i64 ((8:Int)*wrap i64 ((1:Int)-(1:Int))))) (IntKind.bits u64)))))),(.val (.int .u8 (wrap u8 (fdiv (wrap u64 t) ((2:Int)^min (Int.toNat (wrap i64 ((8:Int)*wrap i64 ((1:Int)-(1:Int))))) (IntKind.bits u64))))))]),.gone,.gone,(.row [(.val (.int .u8 (wrap u8 (fdiv (wrap u64 fl) ((2:Int)^min (Int.toNat (wrap i64 ((8:Int)*wrap i64 ((1:Int)-(1:Int))))) (IntKind.bits u64)))))),(.val (.int .u8 (wrap u8 (fdiv (wrap u64 t) ((2:Int)^min (Int.toNat (wrap i64 ((8:Int)*wrap i64 ((1:Int)-(1:Int))))) (IntKind.bits u64)))))),(.val (.int .u8 (wrap u8 (fdiv (wrap u64 (if (65535:Int)<(↑(length v):Int) then (65535:Int) else (↑(length v):Int))) ((2:Int)^min (Int.toNat (wrap i64 ((8:Int)*wrap i64 ((2:Int)-(1:Int))))) (IntKind.bits u64)))))),(.val (.int .u8 (wrap u8 (fdiv (wrap u64 (if (65535:Int)<(↑(length v):Int) then (65535:Int) else (↑(length v):Int))) ((2:Int)^min (Int.toNat (wrap i64 ((8:Int)*wrap i64 (wrap i64 ((2:Int)-(1:Int))-(1:Int))))) (IntKind.bits u64))))))])],[]⟩ (.call ⟨(.builtin .append),#[(.tmp 29),(.tmp 33)],#[22,22]⟩) [(29,(.row 1 7 0 4)),(33,(.vec 1 (w) .none))] (.row 1 (K) 0 (N)) ⟨[(.cells [(.val (.int .i64 (fl))),(.val (.int .i64 (t))),(.vec 1 (v) .none)]),.gone,(.row [(.val (.int .u8 (wrap u8 (fdiv (wrap u64 fl) ((2:Int)^min (Int.toNat (wrap i64 ((8:Int)*wrap i64 ((1:Int)-(1:Int))))) (IntKind.bits u64))))))]),.gone,(.row [(.val (.int .u8 (wrap u8 (fdiv (wrap u64 fl) ((2:Int)^min (Int.toNat (wrap i64 ((8:Int)*wrap i64 ((1:Int)-(1:Int))))) (IntKind.bits u64)))))),(.val (.int .u8 (wrap u8 (fdiv (wrap u64 t) ((2:Int)^min (Int.toNat (wrap i64 ((8:Int)*wrap i64 ((1:Int)-(1:Int))))) (IntKind.bits u64))))))]),.gone,.gone,.gone,(.row ([(.val (.int .u8 (wrap u8 (fdiv (wrap u64 fl) ((2:Int)^min (Int.toNat (wrap i64 ((8:Int)*wrap i64 ((1:Int)-(1:Int))))) (IntKind.bits u64)))))),(.val (.int .u8 (wrap u8 (fdiv (wrap u64 t) ((2:Int)^min (Int.toNat (wrap i64 ((8:Int)*wrap i64 ((1:Int)-(1:Int))))) (IntKind.bits u64)))))),(.val (.int .u8 (wrap u8 (fdiv (wrap u64 (if (65535:Int)<(↑(length v):Int) then (65535:Int) else (↑(length v):Int))) ((2:Int)^min (Int.toNat (wrap i64 ((8:Int)*wrap i64 ((2:Int)-(1:Int))))) (IntKind.bits u64)))))),(.val (.int .u8 (wrap u8 (fdiv (wrap u64 (if (65535:Int)<(↑(length v):Int) then (65535:Int) else (↑(length v):Int))) ((2:Int)^min (Int.toNat (wrap i64 ((8:Int)*wrap i64 (wrap i64 ((2:Int)-(1:Int))-(1:Int))))) (IntKind.bits u64))))))]++W))],[]⟩∧
 Q (.row 1 (K) 0 (N)) ⟨[(.cells [(.val (.int .i64 (fl))),(.val (.int .i64 (t))),(.vec 1 (v) .none)]),.gone,(.row [(.val (.int .u8 (wrap u8 (fdiv (wrap u64 fl) ((2:Int)^min (Int.toNat (wrap i64 ((8:Int)*wrap i64 ((1:Int)-(1:Int))))) (IntKind.bits u64))))))]),.gone,(.row [(.val (.int .u8 (wrap u8 (fdiv (wrap u64 fl) ((2:Int)^min (Int.toNat (wrap i64 ((8:Int)*wrap i64 ((1:Int)-(1:Int))))) (IntKind.bits u64)))))),(.val (.int .u8 (wrap u8 (fdiv (wrap u64 t) ((2:Int)^min (Int.toNat (wrap i64 ((8:Int)*wrap i64 ((1:Int)-(1:Int))))) (IntKind.bits u64))))))]),.gone,.gone,.gone,(.row ([(.val (.int .u8 (wrap u8 (fdiv (wrap u64 fl) ((2:Int)^min (Int.toNat (wrap i64 ((8:Int)*wrap i64 ((1:Int)-(1:Int))))) (IntKind.bits u64)))))),(.val (.int .u8 (wrap u8 (fdiv (wrap u64 t) ((2:Int)^min (Int.toNat (wrap i64 ((8:Int)*wrap i64 ((1:Int)-(1:Int))))) (IntKind.bits u64)))))),(.val (.int .u8 (wrap u8 (fdiv (wrap u64 (if (65535:Int)<(↑(length v):Int) then (65535:Int) else (↑(length v):Int))) ((2:Int)^min (Int.toNat (wrap i64 ((8:Int)*wrap i64 ((2:Int)-(1:Int))))) (IntKind.bits u64)))))),(.val (.int .u8 (wrap u8 (fdiv (wrap u64 (if (65535:Int)<(↑(length v):Int) then (65535:Int) else (↑(length v):Int))) ((2:Int)^min (Int.toNat (wrap i64 ((8:Int)*wrap i64 (wrap i64 ((2:Int)-(1:Int))-(1:Int))))) (IntKind.bits u64))))))]++W))],[]⟩))
 else (aS prog (λ_=>.none) (.slice 22 (.tmp 31) .none (.some (.tmp 32)) .none) [(31,(.vec 1 (v) .none)),(32,(.val (.int .i64 (if (255:Int)<(↑(length v):Int) then (255:Int) else (↑(length v):Int)))))] (.vec 1 (w) .none)∧
 (bp prog (λ_=>.none) 0 ⟨[(.cells [(.val (.int .i64 (fl))),(.val (.int .i64 (t))),(.vec 1 (v) .none)]),.gone,(.row [(.val (.int .u8 (wrap u8 (fdiv (wrap u64 fl) ((2:Int)^min (Int.toNat (wrap i64 ((8:Int)*wrap i64 ((1:Int)-(1:Int))))) (IntKind.bits u64))))))]),.gone,(.row [(.val (.int .u8 (wrap u8 (fdiv (wrap u64 fl) ((2:Int)^min (Int.toNat (wrap i64 ((8:Int)*wrap i64 ((1:Int)-(1:Int))))) (IntKind.bits u64)))))),(.val (.int .u8 (wrap u8 (fdiv (wrap u64 t) ((2:Int)^min (Int.toNat (wrap i64 ((8:Int)*wrap i64 ((1:Int)-(1:Int))))) (IntKind.bits u64))))))]),.gone,(.row [(.val (.int .u8 (wrap u8 (fdiv (wrap u64 fl) ((2:Int)^min (Int.toNat (wrap i64 ((8:Int)*wrap i64 ((1:Int)-(1:Int))))) (IntKind.bits u64)))))),(.val (.int .u8 (wrap u8 (fdiv (wrap u64 t) ((2:Int)^min (Int.toNat (wrap i64 ((8:Int)*wrap i64 ((1:Int)-(1:Int))))) (IntKind.bits u64)))))),(.val (.int .u8 (wrap u8 (fdiv (wrap u64 (if (255:Int)<(↑(length v):Int) then (255:Int) else (↑(length v):Int))) ((2:Int)^min (Int.toNat (wrap i64 ((8:Int)*wrap i64 ((1:Int)-(1:Int))))) (IntKind.bits u64))))))])],[]⟩ (.call ⟨(.builtin .append),#[(.tmp 29),(.tmp 33)],#[22,22]⟩) [(29,(.row 1 6 0 3)),(33,(.vec 1 (w) .none))] (.row 1 (K) 0 (N)) ⟨[(.cells [(.val (.int .i64 (fl))),(.val (.int .i64 (t))),(.vec 1 (v) .none)]),.gone,(.row [(.val (.int .u8 (wrap u8 (fdiv (wrap u64 fl) ((2:Int)^min (Int.toNat (wrap i64 ((8:Int)*wrap i64 ((1:Int)-(1:Int))))) (IntKind.bits u64))))))]),.gone,(.row [(.val (.int .u8 (wrap u8 (fdiv (wrap u64 fl) ((2:Int)^min (Int.toNat (wrap i64 ((8:Int)*wrap i64 ((1:Int)-(1:Int))))) (IntKind.bits u64)))))),(.val (.int .u8 (wrap u8 (fdiv (wrap u64 t) ((2:Int)^min (Int.toNat (wrap i64 ((8:Int)*wrap i64 ((1:Int)-(1:Int))))) (IntKind.bits u64))))))]),.gone,.gone,(.row ([(.val (.int .u8 (wrap u8 (fdiv (wrap u64 fl) ((2:Int)^min (Int.toNat (wrap i64 ((8:Int)*wrap i64 ((1:Int)-(1:Int))))) (IntKind.bits u64)))))),(.val (.int .u8 (wrap u8 (fdiv (wrap u64 t) ((2:Int)^min (Int.toNat (wrap i64 ((8:Int)*wrap i64 ((1:Int)-(1:Int))))) (IntKind.bits u64)))))),(.val (.int .u8 (wrap u8 (fdiv (wrap u64 (if (255:Int)<(↑(length v):Int) then (255:Int) else (↑(length v):Int))) ((2:Int)^min (Int.toNat (wrap i64 ((8:Int)*wrap i64 ((1:Int)-(1:Int))))) (IntKind.bits u64))))))]++W))],[]⟩∧
 Q (.row 1 (K) 0 (N)) ⟨[(.cells [(.val (.int .i64 (fl))),(.val (.int .i64 (t))),(.vec 1 (v) .none)]),.gone,(.row [(.val (.int .u8 (wrap u8 (fdiv (wrap u64 fl) ((2:Int)^min (Int.toNat (wrap i64 ((8:Int)*wrap i64 ((1:Int)-(1:Int))))) (IntKind.bits u64))))))]),.gone,(.row [(.val (.int .u8 (wrap u8 (fdiv (wrap u64 fl) ((2:Int)^min (Int.toNat (wrap i64 ((8:Int)*wrap i64 ((1:Int)-(1:Int))))) (IntKind.bits u64)))))),(.val (.int .u8 (wrap u8 (fdiv (wrap u64 t) ((2:Int)^min (Int.toNat (wrap i64 ((8:Int)*wrap i64 ((1:Int)-(1:Int))))) (IntKind.bits u64))))))]),.gone,.gone,(.row ([(.val (.int .u8 (wrap u8 (fdiv (wrap u64 fl) ((2:Int)^min (Int.toNat (wrap i64 ((8:Int)*wrap i64 ((1:Int)-(1:Int))))) (IntKind.bits u64)))))),(.val (.int .u8 (wrap u8 (fdiv (wrap u64 t) ((2:Int)^min (Int.toNat (wrap i64 ((8:Int)*wrap i64 ((1:Int)-(1:Int))))) (IntKind.bits u64)))))),(.val (.int .u8 (wrap u8 (fdiv (wrap u64 (if (255:Int)<(↑(length v):Int) then (255:Int) else (↑(length v):Int))) ((2:Int)^min (Int.toNat (wrap i64 ((8:Int)*wrap i64 ((1:Int)-(1:Int))))) (IntKind.bits u64))))))]++W))],[]⟩))):=by kernel_rfl
def bz (z:Int)(m:Nat):Int:=wrap .u8 (fdiv (wrap .u64 z) ((2:Int)^m))
def fO (fl:Int)(v:Bs):Int:=bif ow fl then (if (65535:Int)<(v.length:Int) then 65535 else v.length) else (if (255:Int)<(v.length:Int) then 255 else v.length)
def ES (fl t n:Int):Bs:=bif ow fl then [bT (bz fl 0),bT (bz t 0),bT (bz n 8),bT (bz n 0)] else [bT (bz fl 0),bT (bz t 0),bT (bz n 0)]
def lg (fl t:Int)(v:Bs):Bs:=ES fl t (fO fl v)++v.take (fO fl v).toNat
theorem UB (z:Int):0≤wrap .u8 z∧wrap .u8 z<256:=by
 simp only [wrap,IntKind.bits,signed];simp;omega
theorem ry (z:Int)(m:Nat):0≤bz z m∧bz z m<256:=UB _
theorem Rs (fl:Int)(v:Bs):0≤fO fl v∧(fO fl v).toNat≤v.length:=by
 unfold fO
 cases ow fl<;>simp only [cond_true,cond_false]<;>split<;>omega
theorem qv {fl t:Int}{v:Bs}(hv:IsB v)(hl:v.length≤28800000):IsB (lg fl t v):=by
 obtain ⟨⟨l,hl2,hz⟩,_⟩:=hv.take (fO fl v).toNat
 have h1:(v.take (fO fl v).toNat).length≤v.length:=by rw [length_take];omega
 unfold lg ES
 rw [hl2] at h1 ⊢
 cases ow fl
 ·refine ⟨⟨bz fl 0::bz t 0::bz (fO fl v) 0::l,rfl,λz hm=> ?_⟩,?_⟩
  ·rcases mem_cons.1 hm with rfl | hm;exact ry _ _
   rcases mem_cons.1 hm with rfl | hm;exact ry _ _
   rcases mem_cons.1 hm with rfl | hm;exact ry _ _
   exact hz z hm
  ·simp only [cond_false,length_append,length_cons,length_nil];omega
 ·refine ⟨⟨bz fl 0::bz t 0::bz (fO fl v) 8::bz (fO fl v) 0::l,rfl,λz hm=> ?_⟩,?_⟩
  ·rcases mem_cons.1 hm with rfl | hm;exact ry _ _
   rcases mem_cons.1 hm with rfl | hm;exact ry _ _
   rcases mem_cons.1 hm with rfl | hm;exact ry _ _
   rcases mem_cons.1 hm with rfl | hm;exact ry _ _
   exact hz z hm
  ·simp only [cond_true,length_append,length_cons,length_nil];omega
theorem VCx.rowB {f:FuncId}{xs:List TV}{es:Bs}(hes:IsB es)(h:VCx prog ae 0 f xs ⟨[],[]⟩ λx T'=>∃id off n,x=.row 1 id off n∧bL T' 1 (.row 1 id off n)=some es):VCx prog ae 0 f xs ⟨[],[]⟩ λx T'=>x=.vec 1 es .none∧T'=⟨[],[]⟩:=by
 refine VCx.keepQ 0 0 (le_refl _) (le_refl _) ((VCx.freeze (size:=1) (es:=es) (Q:=λ_=>True) (h.mono λx T' ⟨id,off,n,h1,h2⟩=>⟨id,off,n,h1,h2,trivial⟩)).mono ?_)
 rintro x T' ⟨rfl,_⟩
 exact ⟨by simp only [TV.ren,hes.ren,Tok.ren],rfl⟩
theorem LV (fl t:Int):VCx prog ae 0 we [lQ fl t []] ⟨[],[]⟩ λx T'=>x=.vec 1 (lg fl t []) .none∧T'=⟨[],[]⟩:=by
 refine VCx.rowB (qv .nil (by simp)) (aj ac aa ai ag (OZ fl t _) ?_)
 refine am (λhx=>⟨7,0,4,rfl,?_⟩) (λhx=>⟨6,0,3,rfl,?_⟩)
 ·have e:lg fl t []= [bT (bz fl 0),bT (bz t 0),bT (bz 0 8),bT (bz 0 0)]:=by
   unfold lg ES fO;rw [show ow fl=true from hx];rfl
  rw [e]
  exact jC (es:= [bT (bz fl 0),bT (bz t 0),bT (bz 0 8),bT (bz 0 0)]) (by kernel_rfl) (by intro e he;simp only [mem_cons,not_mem_nil,or_false] at he;rcases he with rfl | rfl | rfl | rfl<;>rfl)
 ·have e:lg fl t []= [bT (bz fl 0),bT (bz t 0),bT (bz 0 0)]:=by
   unfold lg ES fO;rw [show ow fl=false from hx];rfl
  rw [e]
  exact jC (es:= [bT (bz fl 0),bT (bz t 0),bT (bz 0 0)]) (by kernel_rfl) (by intro e he;simp only [mem_cons,not_mem_nil,or_false] at he;rcases he with rfl | rfl | rfl<;>rfl)
theorem C0 {T T':VT}{s x:Operand}{l:List (Nat × TV)}{q0:List TV}{qs:Bs}{tok:Tok}{id n:Nat}{cs:List TV}{y:TV}(hs:aA ae l s=.row 1 id 0 n)(ho:T.objs[id]?=some (.row cs))(hn:n≤cs.length)(hx:aA ae l x=.vec 1 (q0::qs) tok)(hb:n+(q0::qs).length≤64000001)
  (hy:TV.row 1 T.objs.length 0 (n+(q0::qs).length)=y) (hT:(T.kill id).newRow (cs.take n++(q0::qs).flatten)=T'):bp prog ae 0 T (.call ⟨.builtin .append,#[s,x],#[22,22]⟩) l y T':=by
 obtain ⟨inf,i1,i2,i3,i4⟩:=cJ
 have h:=Ef (inf:=inf) (P:=prog) (G:=ae) (ro:=0) (T:=T) (t:=22) (tx:=22) (s:=s) (x:=x) (l:=l) (q0:=q0) (qs:=qs) (tok:=tok) (id:=id) (n:=n) (cs:=cs) Tryz.underlying22 i1 i4 (by rw [i2];rfl) (by rfl) (by kernel_rfl) (by rw [i2];exact hs) ho (zero_le _) (by rw [i2];omega) (by rw [i2];exact hx) (by rw [i3];omega)
 rw [i2,Nat.mul_one,hy,hT] at h
 exact h
theorem O0 {fl:Int}{r:List TV}{v:Bs}:0<(fO fl (r::v)).toNat:=by
 unfold fO
 cases ow fl<;>simp only [cond_true,cond_false,length_cons]<;>split<;>omega
theorem O1 (fl t:Int){r:List TV}{v:Bs}(hv:IsB (r::v))(hl:(r::v).length≤28800000):VCx prog ae 0 we [lQ fl t (r::v)] ⟨[],[]⟩ λx T'=>x=.vec 1 (lg fl t (r::v)) .none∧T'=⟨[],[]⟩:=by
 obtain ⟨h0,h1⟩:=Rs fl (r::v)
 have hp:=O0 (fl:=fl) (r:=r) (v:=v)
 obtain ⟨qs,hqs⟩:∃qs,(r::v).take (fO fl (r::v)).toNat=r::qs:=by
  obtain ⟨k,hk⟩:∃k,(fO fl (r::v)).toNat=k+1:=⟨_,(Nat.succ_pred_eq_of_pos hp).symm⟩
  exact ⟨v.take k,by rw [hk];rfl⟩
 have hql:(r::qs).length≤28800000:=by
  rw [←hqs,length_take];omega
 have hq1:∀e∈r::qs,e.length=1:=by
  rw [←hqs];exact (hv.take _).len1
 refine VCx.rowB (qv hv hl) (aj ac aa ai ag (Rr fl t (r::v) (r::qs) (r::qs).flatten (bif ow fl then 8 else 7) ((r::qs).length+(bif ow fl then 4 else 3)) _) ?_)
 refine am (λhx=> ?_) (λhx=> ?_)
 ·have hx2:ow fl=true:=hx
  have hM:fO fl (r::v)=(if (65535:Int)<((r::v).length:Int) then 65535 else ((r::v).length:Int)):=by unfold fO;rw [hx2];rfl
  rw [hx2,←hM]
  refine ⟨?_,C0 (id:=7) (n:=4) (tok:=.none) rfl rfl (le_refl 4) rfl (by omega) (by rw [Nat.add_comm 4];rfl) rfl,8,0,(r::qs).length+4,rfl,?_⟩
  ·have h:=s8 (x:=.tmp 31) (i:=.tmp 32) (l:= [(31,.vec 1 (r::v) .none),(32,.val (.int .i64 (fO fl (r::v))))]) (b:=r::v) (tok:=.none) (k:=.i64) (z:=fO fl (r::v)) rfl rfl h0 rfl h1
   rwa [hqs] at h
  ·have e:lg fl t (r::v)= [bT (bz fl 0),bT (bz t 0),bT (bz (fO fl (r::v)) 8),bT (bz (fO fl (r::v)) 0)]++(r::qs):=by unfold lg ES;rw [hx2,hqs];rfl
   rw [e]
   exact jC (es:= [bT (bz fl 0),bT (bz t 0),bT (bz (fO fl (r::v)) 8),bT (bz (fO fl (r::v)) 0)]++(r::qs)) rfl (λe he=>by
    rcases mem_append.1 he with h | h
    ·simp only [mem_cons,not_mem_nil,or_false] at h;rcases h with rfl | rfl | rfl | rfl<;>rfl
    ·exact hq1 e h)
 ·have hx2:ow fl=false:=hx
  have hM:fO fl (r::v)=(if (255:Int)<((r::v).length:Int) then 255 else ((r::v).length:Int)):=by unfold fO;rw [hx2];rfl
  rw [hx2,←hM]
  refine ⟨?_,C0 (id:=6) (n:=3) (tok:=.none) rfl rfl (le_refl 3) rfl (by omega) (by rw [Nat.add_comm 3];rfl) rfl,7,0,(r::qs).length+3,rfl,?_⟩
  ·have h:=s8 (x:=.tmp 31) (i:=.tmp 32) (l:= [(31,.vec 1 (r::v) .none),(32,.val (.int .i64 (fO fl (r::v))))]) (b:=r::v) (tok:=.none) (k:=.i64) (z:=fO fl (r::v)) rfl rfl h0 rfl h1
   rwa [hqs] at h
  ·have e:lg fl t (r::v)= [bT (bz fl 0),bT (bz t 0),bT (bz (fO fl (r::v)) 0)]++(r::qs):=by unfold lg ES;rw [hx2,hqs];rfl
   rw [e]
   exact jC (es:= [bT (bz fl 0),bT (bz t 0),bT (bz (fO fl (r::v)) 0)]++(r::qs)) rfl (λe he=>by
    rcases mem_append.1 he with h | h
    ·simp only [mem_cons,not_mem_nil,or_false] at h;rcases h with rfl | rfl | rfl<;>rfl
    ·exact hq1 e h)
--bumped 32
def LW (x:TV):Prop:=∀f g,x.ren f g=x
def G5 (o h m:Int)(hm:Bool)(x:TV)(t:Int)(v:Bs)(O:VO):Prop:=O=m8 o h m hm x t v
def DzOk (dz:TV)(d:Bs):Prop:=(dz=.val (.slice none 0 0)∧d= [])∨(dz=.vec 1 d .none∧IsB d)
theorem DzOk.le {dz:TV}{d:Bs}(h:DzOk dz d)(f g:Nat→Option Nat):TVle (dz.ren f g) (.vec 1 d .none):=by
 rcases h with ⟨rfl,rfl⟩ | ⟨rfl,hd⟩
 ·exact .nil 1
 ·simp only [TV.ren,hd.ren,Tok.ren];exact .refl _
theorem DzOk.nil:DzOk (.val (.slice none 0 0)) []:=.inl ⟨rfl,rfl⟩
def G6 (fl t:Int)(v:Bs):Prop:=(0≤fl∧fl<256)∧(0≤t∧t<256)∧IsB v∧v.length≤28800000
structure AtS where
 o:Int
 h:Int
 m:Int
 hm:Bool
 x:TV
def AtS.vo (a:AtS):VO:=m7 a.o a.h a.m a.hm a.x
def AtS.tv (a:AtS):TV:=.agg [.val (.int .i64 a.o),a.x,.val (.int .u32 a.h),.val (.int .i64 a.m),.val (.bool a.hm)]
def vv:AtS:=⟨0,0,0,false,.val (.slice none 0 0)⟩
def AtS.put (a:AtS)(t:Int)(v:Bs):AtS:=
 if t=1 then {a with o:=dD 1 v} else if t=2 then {a with x:=.vec 1 (ru v) .none} else if t=3 then {a with h:=dD 4 v} else if t=4 then {a with m:=dD 4 v,hm:=true} else a
theorem O2 (a:AtS)(t:Int)(v:Bs):m8 a.o a.h a.m a.hm a.x t v=(a.put t v).vo:=by
 unfold m8 AtS.put AtS.vo
 split
 ·rfl
 split
 ·rfl
 split
 ·rfl
 split<;>rfl
def AtS.Ok (a:AtS):Prop:=a.x=.val (.slice none 0 0)∨∃l:List Int,a.x=.vec 1 (iV l) .none
theorem AtS.Ok.ren {a:AtS}(h:a.Ok)(f g:Nat→Option Nat):a.x.ren f g=a.x:=by
 rcases h with h | ⟨l,h⟩<;>rw [h]
 ·rfl
 ·simp only [TV.ren,dW,Tok.ren]
theorem tq:vv.Ok:=.inl rfl
theorem AtS.Ok.put {a:AtS}(h:a.Ok)(t:Int)(v:Bs):(a.put t v).Ok:=by
 unfold AtS.put
 split
 ·exact h
 split
 ·exact .inr ⟨_,rfl⟩
 split
 ·exact h
 split
 ·exact h
 ·exact h
theorem AtS.Ok.vo_ren {a:AtS}(h:a.Ok)(f g:Nat→Option Nat):a.vo.ren f g=a.vo:=eK h.ren f g
def fL (f:Nat→Bool):List TV:=(List.range 256).map λi=>.val (.bool (f i))
def tr (f:Nat→Bool)(t:Nat):Nat→Bool:=λi=>beq i t || f i
theorem C1 (f:Nat→Bool):(fL f).length=256:=by simp [fL]
theorem O3 {f:Nat→Bool}{t:Nat}(h:t<256):(fL f)[t]?=some (.val (.bool (f t))):=by
 simp [fL,getElem?_map,getElem?_range h]
theorem LX (f:Nat→Bool)(t:Nat):(fL f).set t (.val (.bool true))=fL (tr f t):=by
 apply List.ext_getElem?
 intro j
 rw [List.getElem?_set]
 simp only [fL,getElem?_map,length_map,List.length_range]
 by_cases hj:j<256
 ·rw [getElem?_range hj]
  by_cases e:t=j
  ·subst e;rw [if_pos rfl,if_pos hj];simp [tr]
  ·rw [if_neg e]
   have:beq j t=false:=by
    cases hb:beq j t
    ·rfl
    ·exact absurd (Nat.eq_of_beq_eq_true hb).symm e
   simp [tr,this]
 ·rw [List.getElem?_eq_none (by simpa using hj:(List.range 256).length≤j)]
  by_cases e:t=j
  ·rw [if_pos e,if_neg (by omega)];rfl
  ·rw [if_neg e];rfl
def g7:List ik→(Nat→Bool)→AtS→(Int × Bs) ⊕ (AtS × (Nat→Bool))
 |[],f,a=>.inr (a,f)
 | (fl,t,v)::l,f,a=>bif f t.toNat then .inl (1,[]) else if dx fl t v=0 then g7 l (tr f t.toNat) (a.put t v) else if dx fl t v=11 then .inl (11,[]) else .inl (dx fl t v,lg fl t v)
def rz (a:AtS)(f:Nat→Bool):(Int × Bs) ⊕ AtS:=bif f 1 then (bif f 2 then (bif f 3 then .inr a else .inl (3,[bT 3])) else .inl (3,[bT 2])) else .inl (3,[bT 1])
def im (b:Bs):(Int × Bs) ⊕ AtS:=bif jW b then (match g7 (il b) (λ_=>false) vv with
 | .inl e=>.inl e
 | .inr (a,f)=>rz a f) else .inl (1,[])
def cH (c s:Int)(d:Bs):TV:=.agg [.val (.int .i64 c),.val (.int .i64 s),.vec 1 d .none]
def AtS.fix (a:AtS):AtS:={a with x:=match a.x with
 | .vec 1 l _=>.vec 1 l .none
 |_=>.vec 1 [] .none}
def qw (b:Bs):TV:=match im b with
 | .inl (s,d)=>.tup [vv.fix.tv,cH 3 s d]
 | .inr a=>.tup [a.fix.tv,cH 0 0 []]
theorem AtS.Ok.fix_le {a:AtS}(h:a.Ok):TVle a.tv a.fix.tv:=by
 obtain ⟨o,hh,m,hm,x⟩:=a
 rcases h with h | ⟨l,h⟩<;>simp only at h<;>subst h
 ·exact .agg ⟨.refl _,.nil 1,.refl _,.refl _,.refl _,trivial⟩
 ·exact .refl _
theorem AtS.Ok.fix_ren {a:AtS}(h:a.Ok)(f g:Nat→Option Nat):a.fix.tv.ren f g=a.fix.tv:=by
 obtain ⟨o,hh,m,hm,x⟩:=a
 rcases h with h | ⟨l,h⟩<;>simp only at h<;>subst h
 ·rfl
 ·simp only [AtS.tv,AtS.fix,TV.ren,aw,dW,Tok.ren]
def C2 (l:List ik):Prop:=∀p∈l,(0≤p.1∧p.1<256)∧(0≤p.2.1∧p.2.1<256)∧IsB p.2.2∧p.2.2.length≤28800000
theorem C3 {n:Nat}{b:Bs}(h:IsB b)(e:Int):0≤aN n b e∧aN n b e<256^n:=by rw [Cn];exact Co h e
theorem ET {b:Bs}(h:IsB b)(e:Int):0≤aN 1 b e∧aN 1 b e<256:=C3 (n:=1) h e
theorem O4 {n:Nat}{b:Bs}{e:Int}:(b9 n b e).length≤n:=by
 have h:=uB (n:=n) (b:=b) (e:=e)
 revert h;cases cU n b e<;>simp only [cond_true,cond_false]<;>omega
theorem O5 {b:Bs}(h:IsB b):(jd b).length≤28800000:=by
 have h2:IsB (tj b):=aC (aC h)
 have h3:0≤CG b∧CG b<65536:=by
  unfold CG
  unfold vq
  cases ow (ij b)
  ·have:=C3 (n:=1) h2 (y8 b)
   simp only [cond_false];omega
  ·exact C3 (n:=2) h2 (y8 b)
 obtain ⟨k,hk⟩:=Int.eq_ofNat_of_zero_le h3.1
 have:=O4 (n:=k) (b:=vZ b) (e:=CH b)
 unfold jd
 rw [hk] at h3 ⊢
 have h4:k<65536:=by omega
 exact le_trans this (by omega)
theorem C4:∀(k:Nat) (b:Bs) (acc:List ik),IsB b→C2 acc→∀l,g6 k b acc=some l→C2 l
 | 0,_,_,_,_,l,h=>by cases h
 |k+1,b,acc,hb,ha,l,h=>by
  unfold g6 at h
  cases h1:decide (bC b 0>0)<;>rw [h1] at h
  ·injection h with h;subst h;exact ha
  ·cases h2:decide (xx b=0)<;>rw [h2] at h
   ·cases h
   ·refine C4 k _ _ (IW hb) (λp hp=> ?_) l h
    rcases mem_append.1 hp with h3 | h3
    ·exact ha p h3
    ·obtain rfl:=mem_singleton.1 h3
     exact ⟨ET hb 0,ET (aC hb) _,xz hb,O5 hb⟩
theorem za {b:Bs}(hb:IsB b):C2 (il b):=by
 unfold il
 cases h:xy b with
 |none=>exact λp hp=>by simp at hp
 |some l=>exact C4 _ _ _ hb (λp hp=>by simp at hp) l h
theorem O6 {b:Bs}:(il b).length≤b.length+1:=by
 have key:∀(k:Nat) (b:Bs) (acc l:List ik),g6 k b acc=some l→l.length≤acc.length+b.length+1:=by
  intro k
  induction k with
  |zero=>intro b acc l h;cases h
  |succ k ih=>
   intro b acc l h
   unfold g6 at h
   by_cases hl:bC b 0>0
   ·rw [decide_eq_true hl] at h
    cases h2:decide (xx b=0)<;>rw [h2] at h
    ·cases h
    ·have h3:=ih _ _ _ h
     have h4:=xA hl
     simp only [length_append,length_cons,length_nil] at h3
     omega
   ·rw [decide_eq_false hl] at h
    injection h with h;subst h;omega
 unfold il
 cases h:xy b with
 |none=>simp
 |some l=>have:=key _ _ _ _ h;simpa using this
--bumped 32
abbrev ts:=96
def G7:be:=λ_ ys T K=>match ys with
 |[.vec 1 b _]=>IsB b∧bif jW b then K (.tup [.vec 3 (eZ b) .none,.agg [.val (.int .i64 0),.val (.int .i64 0),.vec 1 [] .none]]) T else K (.tup [.vec 3 (eZ b) .none,.agg [.val (.int .i64 3),.val (.int .i64 1),.vec 1 [] .none]]) T
 |_=>aQ 83 default ys
def G8:be:=λro ys T K=>match ys with
 |[.ptr k 0,.agg [.val (.int .i64 fl),.val (.int .i64 t),.vec 1 v .none]]=>match T.objs[k]? with
  |some (.cells [.val (.int .i64 o),x,.val (.int .u32 h),.val (.int .i64 m),.val (.bool hm)])=>(ble ro k=true∧IsB v∧LW x)∧∀(s:Int) (O:VO),(s=dx fl t v∧(s=0→G5 o h m hm x t v O))→K (.val (.int .i64 s)) {T with objs:=T.objs.set k O}
  |_=>aQ 80 default ys
 |_=>aQ 81 default ys
def G9:be:=λ_ ys T K=>match ys with
 |[.agg [.val (.int .i64 fl),.val (.int .i64 t),.vec 1 v .none]]=>G6 fl t v∧K (.vec 1 (lg fl t v) .none) T
 |_=>aQ 83 default ys
def rA:TV:=.val (.slice none 0 0)
def vw:VO:=.cells [.val (.int .i64 0),rA,.val (.int .u32 0),.val (.int .i64 0),.val (.bool false)]
def EU:VO:=.cells [.val (.int .i64 0),.val (.int .i64 0),rA]
def xH:List Nat:= [2,3,6,7,22,23,24]
def vy (L:Bs)(j:Int):List TV:= [.ptr 0 0,.ptr 1 0,.ptr 3 0,.ptr 4 0,.vec 3 L .none,.val (.int .i64 L.length),.val (.int .i64 j)]
def EV:VO:=.cells [.val (.int .i64 0),.val (.int .i64 0),.vec 1 [] .none]
def Vv:VO:=.cells ((List.range 256).map λ_=>.val (.bool false))
def M3 (N:Nat)(L:Bs)(ok:Bool)(s:Int)(d:Bs)(o h m:Int)(hm:Bool)(xn:Bool)(xl:Bs)(c1 c2 c3:Bool)(K:KX):Prop:=bif ok then (∀(j:Int) (c0:Bool) (rm:List TV),bif xn then K .normal (aI N xH (vy L j)) ⟨[vw,EU,EV,m7 o h m hm rA,.cells (.val (.bool c0):: .val (.bool c1):: .val (.bool c2):: .val (.bool c3)::rm)],[]⟩ [] else K .normal (aI N xH (vy L j)) ⟨[vw,EU,EV,m7 o h m hm (.vec 1 xl .none),.cells (.val (.bool c0):: .val (.bool c1):: .val (.bool c2):: .val (.bool c3)::rm)],[]⟩ []) else ∀(j:Int) (dz:TV) (rest:List VO) (tlz:bq),DzOk dz d→K .ret (aI N xH (vy L j)) ⟨vw:: .cells [.val (.int .i64 3),.val (.int .i64 s),dz]::rest,tlz⟩ []
def Vw (N:Nat)(L:Bs)(ok:Bool)(s:Int)(d:Bs)(o h m:Int)(hm:Bool)(xn:Bool)(xl:Bs)(c1 c2 c3:Bool)(c0:Code):Nat→Option (bW × Code):=bX [(0,gn N xH [] (vy L 0) ⟨[vw,EU,EV,vw,Vv],[]⟩ (M3 N L ok s d o h m hm xn xl c1 c2 c3),c0)]
theorem M4 (b:Bs)(ok:Bool)(s:Int)(d:Bs)(o h m:Int)(hm:Bool)(xn:Bool)(xl:Bs)(c1 c2 c3:Bool)(Q:TV→VT→Prop):ax prog ae (aT [(ti,G7)]) (bB [(999999,.dead,none)]) 300 (Vw 65 (eZ b) ok s d o h m hm xn xl c1 c2 c3 (aE prog ts 0)) 0 ts [.vec 1 b .none] aD Q=
 (IsB (b)∧
 (bif jW b
 then ((aE prog ts (0:Nat)=aE prog ts (0:Nat))∧
 (((@Eq (Option Nat) .none .none)∧
 ((@Eq (Nat) 0 0)∧
 ((@Eq (List Nat) [] [])∧
 (True  ∧
 ((@Eq (VT) MN MN)∧
 ((@Eq (Bool) true true)∧
 (@Eq (List TV) [fb,lO,rj,pM,(.vec 3 (eZ b) .none),(ah (↑(length (eZ b)):Int)),aB] [fb,lO,rj,pM,(.vec 3 (eZ b) .none),(ah (↑(length (eZ b)):Int)),aB])))))))∧
 (bif ok
 then (∀j:Int,(∀c0:Bool,(∀rm:List TV,(bif xn
 then (bif av eql (aq (Value.bool false) (Value.bool c1))
 then Q (uC [[(.val (.int .u8 1))]]) (GL [[(.val (.int .u8 1))]] o h m hm ([(.val (.bool (c0))),(.val (.bool (c1))),(.val (.bool (c2))),(.val (.bool (c3)))]++rm))
 else (bif av eql (aq (Value.bool false) (Value.bool c2))
 then Q (uC [[(.val (.int .u8 2))]]) (GL [[(.val (.int .u8 2))]] o h m hm ([(.val (.bool (c0))),(.val (.bool (c1))),(.val (.bool (c2))),(.val (.bool (c3)))]++rm))
 else (bif av eql (aq (Value.bool false) (Value.bool c3))
 then Q (uC [[(.val (.int .u8 3))]]) (GL [[(.val (.int .u8 3))]] o h m hm ([(.val (.bool (c0))),(.val (.bool (c1))),(.val (.bool (c2))),(.val (.bool (c3)))]++rm))
 else Q (.tup [(.agg [(ah o),aO,(jb h),(ah m),(mB hm)]),lN]) ⟨[(GK o h m hm),cA,dk,(GK o h m hm),(.cells ([(.val (.bool (c0))),(.val (.bool (c1))),(.val (.bool (c2))),(.val (.bool (c3)))]++rm))],[]⟩)))
 else (bif av eql (aq (Value.bool false) (Value.bool c1))
 then Q (uC [[(.val (.int .u8 1))]]) (GJ [[(.val (.int .u8 1))]] o xl h m hm ([(.val (.bool (c0))),(.val (.bool (c1))),(.val (.bool (c2))),(.val (.bool (c3)))]++rm))
 else (bif av eql (aq (Value.bool false) (Value.bool c2))
 then Q (uC [[(.val (.int .u8 2))]]) (GJ [[(.val (.int .u8 2))]] o xl h m hm ([(.val (.bool (c0))),(.val (.bool (c1))),(.val (.bool (c2))),(.val (.bool (c3)))]++rm))
 else (bif av eql (aq (Value.bool false) (Value.bool c3))
 then Q (uC [[(.val (.int .u8 3))]]) (GJ [[(.val (.int .u8 3))]] o xl h m hm ([(.val (.bool (c0))),(.val (.bool (c1))),(.val (.bool (c2))),(.val (.bool (c3)))]++rm))
 else Q (.tup [(.agg [(ah o),(aH xl),(jb h),(ah m),(mB hm)]),lN]) ⟨[(Ac o xl h m hm),cA,dk,(Ac o xl h m hm),(.cells ([(.val (.bool (c0))),(.val (.bool (c1))),(.val (.bool (c2))),(.val (.bool (c3)))]++rm))],[]⟩)))))))
 else (∀j:Int,(∀dz:TV,(∀rest:List VO,(∀tlz:bq,(DzOk (dz) (d)→Q (.tup [Lc,(.agg [fK,(ah s),dz])]) ⟨[(.cells [(.val (.int .i64 0)),(.val (.slice .none 0 0)),(.val (.int .u32 0)),(.val (.int .i64 0)),(.val (.bool false))]),(.cells [(.val (.int .i64 3)),(.val (.int .i64 (s))),(dz)])]++rest,tlz⟩))))))))
 else Q (.tup [Lc,(.agg [fK,eR,mN])]) ⟨[om,QB,QB],[]⟩)):=by kernel_rfl
abbrev Bj (L:Bs)(j:Int):List TV:=(QA L (↑(length L):Int) j)
theorem Ja (L:Bs)(j fl t:Int)(v:Bs)(tn:Nat)(c:Bool)(M M2:List TV)(o h m:Int)(hm:Bool)(x:TV)(Q:Exit→List TV→VT→List Nat→Nat→Prop):vx prog ae (aT [(CV,G8),(we,G9)]) (bB [(999999,.dead,none),(26,.elt [.val (.int .i64 fl),.val (.int .i64 t),.vec 1 v .none],none),(30,.ptr 4 tn,none),(31,.val (.bool c),some λT=>T),(36,.ptr 4 tn,none),(500036,.val undef,some λT=>{T with objs:=T.objs.set 4 (.cells M2)})]) 300 aU none 0 (cC prog ts 0) (aI 65 xH (vy L j)) ⟨[vw,EU,EV,m7 o h m hm x,.cells M],[]⟩ [] (dw xH Q)=
 (bif decide (j<(↑(length L):Int))
 then (aS prog (λ_=>.none) (.indexAddr 202 (.tmp 22) (.tmp 24)) [(22,(.vec 3 L .none)),(24,(ah j))] (.elt [(ah fl),(ah t),(aH v)])∧
 (aS prog (λ_=>.none) (.indexAddr 205 (.tmp 7) (.tmp 29)) [(7,pM),(29,(ah t))] (.ptr 4 tn)∧
 (bp prog (λ_=>.none) 0 (GI o x h m hm M fl t v) (.load 4 (.tmp 30)) [(30,(.ptr 4 tn))] (mB c) (GI o x h m hm M fl t v)∧
 (bif c
 then Q .ret (Bj L j) ⟨[om,xj,dk,(gg o x h m hm),(.cells M),(jG fl t v)],[]⟩ [] 65
 else (aS prog (λ_=>.none) (.indexAddr 205 (.tmp 7) (.tmp 35)) [(7,pM),(35,(ah t))] (.ptr 4 tn)∧
 (bp prog (λ_=>.none) 0 (GI o x h m hm M fl t v) (.store 4 (.tmp 36) (.const (.bool true))) [(36,(.ptr 4 tn))] (.val (.tuple #[])) (GI o x h m hm M2 fl t v)∧
 (((@Eq (Bool) true true)∧
 (IsB (v)∧
 LW (x)))∧
 (∀s:Int,(∀O:VO,(((@Eq (Int) (s) (dx fl t v))∧
 ((@Eq (Int) (s) 0)→G5 (o) (h) (m) (hm) (x) (t) (v) (O)))→(bif av eql (k6 s (0:Int))
 then Q .normal (QA L (↑(length L):Int) (wrap i64 (j+(1:Int)))) ⟨[om,cA,dk,O,(.cells M2),(jG fl t v)],[]⟩ [] 65
 else (bif av eql (k6 s (11:Int))
 then Q .ret (Bj L j) ⟨[om,(.cells [fK,(ah s),aO]),dk,O,(.cells M2),(jG fl t v)],[]⟩ [] 65
 else (G6 (fl) (t) (v)∧
 Q .ret (Bj L j) ⟨[om,(GH s (lg fl t v)),dk,O,(.cells M2),(jG fl t v)],[]⟩ [] 65)))))))))))))
 else Q (.exit 0) (Bj L j) ⟨[om,cA,dk,(gg o x h m hm),(.cells M)],[]⟩ [] 65):=by kernel_rfl
section
variable {P:Program}{G:aP}
theorem Jb {t e:TypeId}{x i:Operand}{l:List (Nat × TV)}{inf:TypeInfo}{id off n:Nat}{k:IntKind}{z:Int}(ht:P.underlying t=some (.array n e))(hi:P.info? e=some inf)
  (hx:aA G l x=.ptr id off) (hz:aA G l i=.val (.int k z)) (h0:0≤z) (h1:z<n):aS P G (.indexAddr t x i) l (.ptr id (off+z.toNat*inf.size)):=by
 refine ⟨?_⟩
 simp [aW,hx,hz,nB,fP,ht,hi,h0,h1]
theorem Eg {ro:Nat}{T:VT}{t:TypeId}{d:TypeDesc}{a:Operand}{l:List (Nat × TV)}{inf:TypeInfo}{id off:Nat}{cs:List TV}{y:TV}(ht:P.underlying t=some d)(hd:kS d=false)(hi:P.info? t=some inf)
  (ha:aA G l a=.ptr id off) (ho:T.objs[id]?=some (.cells cs)) (hy:cs[off]?=some y):bp P G ro T (.load t a) l y T:=by
 refine .mk ?_
 have hlt:=(List.getElem?_eq_some_iff.1 hy).1
 have hc:dC T (.ptr id off) 1=some [y]:=by
  simp only [dC,ho]
  rw [if_pos (by omega)]
  congr 1
  rw [List.take_one,List.head?_drop,hy];rfl
 have h1:aW P (.load t a) (aA G l)=none:=by simp [aW,cN]
 have h2:aY P T (.load t a) (aA G l)=some y:=by simp [aY,cM,jp,ht,hi,hd,ha,hc]
 simp only [dZ,h1,h2]
theorem C5 {ro:Nat}{T:VT}{t:TypeId}{a x:Operand}{l:List (Nat × TV)}{inf:TypeInfo}{id off:Nat}{cs new:List TV}(hi:P.info? t=some inf)
  (ha:aA G l a=.ptr id off) (hx:bR (aA G l x)=some new) (ho:T.objs[id]?=some (.cells cs)) (hn:inf.size=new.length) (hle:off+new.length≤cs.length) (hc:new.all fQ=true) (hro:ro≤id):
  bp P G ro T (.store t a x) l (.val undef) {T with objs:=T.objs.set id (.cells (bs cs off new))}:=by
 refine .old ?_ ?_
 ·simp [oT,ha,hro]
 ·have h1:kU P T t (aA G l a) (aA G l x)=some (.val undef,{T with objs:=T.objs.set id (.cells (bs cs off new))}):=by
   simp only [kU,ha,ho,hx,hi]
   rw [if_pos ⟨hn,hle,hc⟩]
  simp [uY,cN,cM,nR,h1]
theorem Jc (cs:List TV)(off:Nat)(y:TV)(h:off<cs.length):bs cs off [y]=cs.set off y:=by
 unfold bs
 rw [List.set_eq_take_append_cons_drop,if_pos h]
 simp
end
theorem O7 {b:Bs}(hb:IsB b)(f g:Nat→Option Nat):(vt b).ren f g=vt b:=by
 simp only [vt,TV.ren,aw,y9 hb,Tok.ren,br]
theorem O8 {f:FuncId}(h:∀{b:Bs},IsB b→VCx prog ae 0 f [.vec 1 b .none] ⟨[],[]⟩ λx T'=>x=vt b∧T'=⟨[],[]⟩):∀ro ys T K,G7 ro ys T K→VCx prog ae ro f ys T K:=by
 intro ro ys T K hw
 unfold G7 at hw
 split at hw
 ·rename_i b tok
  refine VCx.loosePure aV (h hw.1) (by simp [ea]) (by simp [aw,TV.ren,hw.1.ren,Tok.ren]) (λf h=>O7 hw.1 f h) ?_
  have h2:=hw.2
  unfold vt
  cases hh:jW b<;>rw [hh] at h2<;>exact h2
 ·exact hw.elim
theorem O9 {o h m t:Int}{hm:Bool}{x:TV}{v:Bs}(hx:LW x)(f g:Nat→Option Nat):(m8 o h m hm x t v).ren f g=m8 o h m hm x t v:=by
 unfold m8
 split
 ·exact eK hx f g
 split
 ·exact eK (wd v) f g
 split
 ·exact eK hx f g
 split
 ·exact eK hx f g
 ·exact eK hx f g
theorem Pa {f:FuncId}(hf:∀(o h m fl t:Int) (hm:Bool) {x:TV} (_:∀f g,x.ren f g=x) {v:Bs} (_:IsB v),VCx prog ae 0 f [.ptr 0 0,lQ fl t v] ⟨[m7 o h m hm x],[]⟩ (xG o h m hm x fl t v)):∀ro ys T K,G8 ro ys T K→VCx prog ae ro f ys T K:=by
 intro ro ys T K hw
 unfold G8 at hw
 split at hw
 ·rename_i k fl t v
  split at hw
  ·rename_i o x h m hm ho
   obtain ⟨⟨hro,hv,hx⟩,hk⟩:=hw
   refine VCx.at1 (Q:=λy o' l'=>y=.val (.int .i64 (dx fl t v))∧l'= []∧(dx fl t v=0→o'=m8 o h m hm x t v)) aV (le_of_ble_eq_true hro) ho rfl (eK hx _ _) (ys1:= [.ptr 0 0,lQ fl t v]) (by simp [aw,TV.ren,aL,lQ,hv.ren,Tok.ren]) ((hf o h m fl t hm hx hv).mono ?_) ?_
   ·rintro y T' ⟨h1,O,h2,h3⟩
    exact ⟨O,[],h2,h1,rfl,h3⟩
   ·rintro y o' l' ⟨rfl,rfl,h3⟩
    simpa [TV.ren] using hk (dx fl t v) (o'.ren (aJ T.objs.length [k]) (aJ T.tails.length [])) ⟨rfl,λhs=>by
     unfold G5
     rw [h3 hs];exact O9 hx _ _⟩
  ·exact hw.elim
 ·exact hw.elim
theorem Pb {f:FuncId}(h:∀(fl t:Int) (v:Bs),G6 fl t v→VCx prog ae 0 f [lQ fl t v] ⟨[],[]⟩ λx T'=>x=.vec 1 (lg fl t v) .none∧T'=⟨[],[]⟩):∀ro ys T K,G9 ro ys T K→VCx prog ae ro f ys T K:=by
 intro ro ys T K hw
 unfold G9 at hw
 split at hw
 ·rename_i fl t v
  have hv:=hw.1.2.2.1
  have hr:=qv (fl:=fl) (t:=t) hv hw.1.2.2.2
  exact VCx.liftPure aV (h fl t v hw.1) (by simp [aw,TV.ren,lQ,hv.ren,Tok.ren]) (λf g=>by simp only [TV.ren,hr.ren,Tok.ren]) hw.2
 ·exact hw.elim
theorem Pc (fl t:Int)(v:Bs)(h:G6 fl t v):VCx prog ae 0 we [lQ fl t v] ⟨[],[]⟩ λx T'=>x=.vec 1 (lg fl t v) .none∧T'=⟨[],[]⟩:=by
 cases v with
 |nil=>exact LV fl t
 |cons r v=>exact O1 fl t h.2.2.1 h.2.2.2
theorem LY (f:Nat→Bool)(g h:Nat→Option Nat):aw g h (fL f)=fL f:=by
 simp only [fZ,fL,List.map_map];rfl
theorem LZ (f:Nat→Bool)(g h:Nat→Option Nat):(VO.cells (fL f)).ren g h=.cells (fL f):=by
 simp only [VO.ren,LY]
theorem Jd (f:Nat→Bool):fL f=.val (.bool (f 0)):: .val (.bool (f 1)):: .val (.bool (f 2)):: .val (.bool (f 3))::(fL f).drop 4:=rfl
def zb (b:Bs):(Int × Bs) ⊕ (AtS × (Nat→Bool)):=g7 (il b) (λ_=>false) vv
theorem zc:∀(l:List ik) (f:Nat→Bool) (a:AtS),a.Ok→∀a' f',g7 l f a=.inr (a',f')→a'.Ok
 |[],f,a,h,a',f',e=>by injection e with e;injection e with e1 e2;exact e1▸h
 | (fl,t,v)::l,f,a,h,a',f',e=>by
  unfold g7 at e
  cases hf:f t.toNat<;>rw [hf] at e
  ·simp only [cond_false] at e
   split at e
   ·exact zc l _ _ (h.put t v) a' f' e
   ·split at e<;>cases e
  ·cases e
def M5 (a:AtS)(f:Nat→Bool):VT:=⟨[vw,EU,EV,a.vo,.cells (fL f)],[]⟩
def Wc (s:Int)(dz:TV):VO:=.cells [.val (.int .i64 3),.val (.int .i64 s),dz]
def Je (b:Bs)(ex:Exit)(vs:List TV)(T:VT):Prop:=
 (∃(a:AtS) (f:Nat→Bool) (j:Int),zb b=.inr (a,f)∧ex=.normal∧vs=vy (eZ b) j∧T=M5 a f)∨
 (∃(s:Int) (d:Bs) (dz:TV) (rest:List VO) (tlz:bq) (j:Int),zb b=.inl (s,d)∧DzOk dz d∧ex=.ret∧vs=vy (eZ b) j∧T=⟨vw::Wc s dz::rest,tlz⟩)
def xI (b:Bs)(ok:Bool)(s:Int)(d:Bs)(o h m:Int)(hm:Bool)(xn:Bool)(xl:Bs)(c1 c2 c3:Bool):Prop:=
 (ok=false∧zb b=.inl (s,d))∨(ok=true∧∃f,zb b=.inr (⟨o,h,m,hm,bif xn then rA else .vec 1 xl .none⟩,f)∧c1=f 1∧c2=f 2∧c3=f 3)
theorem Jf {N:Nat}{b:Bs}{ok:Bool}{s:Int}{d:Bs}{o h m:Int}{hm xn:Bool}{xl:Bs}{c1 c2 c3:Bool}{K:KX}(hp:xI b ok s d o h m hm xn xl c1 c2 c3)(hK:M3 N (eZ b) ok s d o h m hm xn xl c1 c2 c3 K){ex:Exit}{vs:List TV}{T:VT}(hq:Je b ex vs T):K ex (aI N xH vs) T []:=by
 unfold M3 at hK
 rcases hp with ⟨rfl,hr⟩ | ⟨rfl,f,hr,rfl,rfl,rfl⟩
 ·rcases hq with ⟨a,f,j,h1,_⟩ | ⟨s',d',dz,rest,tlz,j,h1,h2,rfl,rfl,rfl⟩
  ·rw [hr] at h1;cases h1
  ·rw [hr] at h1;injection h1 with h1;injection h1 with e1 e2;subst e1 e2
   exact hK j dz rest tlz h2
 ·rcases hq with ⟨a,f',j,h1,rfl,rfl,rfl⟩ | ⟨s',d',dz,rest,tlz,j,h1,_⟩
  ·rw [hr] at h1;injection h1 with h1;injection h1 with e1 e2;subst e1 e2
   have h3:=hK j (f 0) ((fL f).drop 4)
   unfold M5
   rw [Jd f]
   cases xn<;>exact h3
  ·rw [hr] at h1;cases h1
theorem L0 {x i:Operand}{l:List (Nat × TV)}{es:Bs}{tok:Tok}{k:IntKind}{z:Int}{cs:List TV}(hx:aA ae l x=.vec 3 es tok)(hz:aA ae l i=.val (.int k z))(h0:0≤z)(he:es[z.toNat]?=some cs):aS prog ae (.indexAddr 202 x i) l (.elt cs):=by
 obtain ⟨inf,i1,i2,i3,i4⟩:=CJ
 exact fp (inf:=inf) Tryz.underlying202 i1 (by rw [i2];exact hx) hz h0 he
theorem wg:∃inf:TypeInfo,prog.info? 4=some inf∧inf.size=1:=⟨(prog.info? 4).getD default,by kernel_rfl,by kernel_rfl⟩
theorem L1:∃d:TypeDesc,prog.underlying 4=some d∧kS d=false:=⟨_,Tryz.underlying4,rfl⟩
theorem Au {x i:Operand}{l:List (Nat × TV)}{id:Nat}{k:IntKind}{z:Int}(hx:aA ae l x=.ptr id 0)(hz:aA ae l i=.val (.int k z))(h0:0≤z)(h1:z<256):aS prog ae (.indexAddr 205 x i) l (.ptr id z.toNat):=by
 obtain ⟨inf,i1,i2⟩:=wg
 have h:=Jb (P:=prog) (G:=ae) (inf:=inf) (t:=205) (x:=x) (i:=i) (l:=l) Tryz.underlying205 i1 hx hz h0 h1
 rwa [i2,Nat.mul_one,Nat.zero_add] at h
theorem Jg {T:VT}{a:Operand}{l:List (Nat × TV)}{id off:Nat}{f:Nat→Bool}(ha:aA ae l a=.ptr id off)(ho:T.objs[id]?=some (.cells (fL f)))(h1:off<256):bp prog ae 0 T (.load 4 a) l (.val (.bool (f off))) T:=by
 obtain ⟨inf,i1,i2⟩:=wg
 obtain ⟨d,d1,d2⟩:=L1
 exact Eg d1 d2 i1 ha ho (O3 h1)
theorem Ha {T T':VT}{a:Operand}{l:List (Nat × TV)}{id off:Nat}{f:Nat→Bool}(ha:aA ae l a=.ptr id off)(ho:T.objs[id]?=some (.cells (fL f)))(h1:off<256)(hT:{T with objs:=T.objs.set id (.cells (fL (tr f off)))}=T'):bp prog ae 0 T (.store 4 a (.const (.bool true))) l (.val (.tuple #[])) T':=by
 obtain ⟨inf,i1,i2⟩:=wg
 have h:=C5 (P:=prog) (G:=ae) (ro:=0) (T:=T) (t:=4) (a:=a) (x:=.const (.bool true)) (l:=l) (inf:=inf) (id:=id) (off:=off) (cs:=fL f) (new:= [.val (.bool true)]) i1 ha rfl ho (by rw [i2];rfl) (by rw [C1];exact h1) rfl (zero_le _)
 rw [Jc _ _ _ (by rw [C1];exact h1),LX,hT] at h
 exact h
abbrev Rt:=Nat × (Nat→Bool) × AtS
theorem Ru:bu prog ae (aT [(CV,G8),(we,G9)]):=aZ λp hp=>by
 rcases mem_cons.1 hp with rfl | hp;exact Pa OY
 obtain rfl:=mem_singleton.1 hp;exact Pb Pc
theorem L2 {b:Bs}(hb:IsB b){ok:Bool}{s:Int}{d:Bs}{o h m:Int}{hm xn:Bool}{xl:Bs}{c1 c2 c3:Bool}(hp:xI b ok s d o h m hm xn xl c1 c2 c3)(K:KX)(hK:M3 65 (eZ b) ok s d o h m hm xn xl c1 c2 c3 K):VWx prog ae none 0 (aE prog ts 0) (aI 65 xH (vy (eZ b) 0)) ⟨[vw,EU,EV,vw,Vv],[]⟩ [] K:=by
 have hA:=za hb
 have hAl:=O6 (b:=b)
 have hsm:=hb.small
 let sl:Rt→List TV:=λs=>vy (eZ b) s.1
 let TT:Rt→VT:=λs=>M5 s.2.2 s.2.1
 refine dM (f:=ts) (id:=0) (by kernel_rfl) 65 xH (λs:Rt=>(il b).length-s.1) sl TT (λs=>s.1≤(il b).length∧s.2.2.Ok∧g7 ((il b).drop s.1) s.2.1 s.2.2=zb b) 5 0 (λ_ _=>⟨le_refl _,le_refl _⟩)
  (Je b) (λs hs=> ?_) ⟨0,λ_=>false,vv⟩ ⟨zero_le _,tq,rfl⟩ K (λex vs T h=>Jf hp hK h)
 obtain ⟨k,f,a⟩:=s
 obtain ⟨hk,ha,hgo⟩:=hs
 simp only at hk ha hgo
 have hL:(eZ b).length=(il b).length:=by simp [eZ]
 by_cases hlt:k<(il b).length
 ·obtain ⟨fl,t,v,hat⟩:∃fl t v,(il b)[k]?=some (fl,t,v):=⟨_,_,_,getElem?_eq_getElem hlt⟩
  obtain ⟨h1,h2,hv,hvl⟩:=hA _ (List.mem_of_getElem? hat)
  simp only at h1 h2 hv hvl
  have htn:t.toNat<256:=by omega
  have hdrop:(il b).drop k=(fl,t,v)::(il b).drop (k+1):=by
   rw [List.drop_eq_getElem_cons hlt]
   have:=getElem?_eq_getElem hlt
   rw [hat] at this;injection this with this;rw [←this]
  rw [hdrop] at hgo
  have hE:(eZ b)[((k:Nat):Int).toNat]?=some (fV (fl,t,v)):=by
   rw [Int.toNat_natCast];simp [eZ,getElem?_map,hat]
  refine bU ac aa Ru ag (Ja (eZ b) k fl t v t.toNat (f t.toNat) (fL f) (fL (tr f t.toNat)) a.o a.h a.m a.hm a.x _) ?_
  refine bd (decide_eq_true (show ((k:Nat):Int)<((eZ b).length:Nat) by omega)) ⟨L0 rfl rfl (by omega) hE,Au rfl rfl h2.1 h2.2,Jg rfl rfl htn,?_⟩
  cases hf:f t.toNat
  ·refine ⟨Au rfl rfl h2.1 h2.2,Ha rfl rfl htn rfl,⟨rfl,hv,ha.ren⟩,?_⟩
   rintro s O ⟨hs,hO⟩
   have hgo1:g7 ((fl,t,v)::(il b).drop (k+1)) f a=(if dx fl t v=0 then g7 ((il b).drop (k+1)) (tr f t.toNat) (a.put t v) else if dx fl t v=11 then .inl (11,[]) else .inl (dx fl t v,lg fl t v)):=by
    simp only [g7,hf,cond_false]
   rw [←hs] at hgo1
   refine am (λe0=> ?_) (λe0=> ?_)
   ·replace e0:s=0:=dI e0
    have hO2:O=(a.put t v).vo:=by
     have:=hO e0
     unfold G5 at this
     rw [this,O2]
    rw [dE (z:=((k:Nat):Int)+1) (by omega) (by omega)]
    refine ⟨rfl,rfl,⟨k+1,tr f t.toNat,a.put t v⟩,⟨hlt,ha.put t v,?_⟩,by simp only;omega,.inr ⟨?_,?_⟩⟩
    ·simp only;rw [←hgo,hgo1,if_pos e0]
    ·show VT.keep _ 5 0=M5 _ _
     simp only [VT.keep,take_succ_cons,take_zero,map_cons,map_nil,hO2,(ha.put t v).vo_ren,LZ]
     rfl
    ·simp only [aw,TV.ren,y9 hb,Tok.ren]
     simp only [sl,vy]
     rfl
   ·replace e0:¬s=0:=dl e0
    rw [if_neg e0] at hgo1
    refine am (λe1=> ?_) (λe1=> ?_)
    ·replace e1:s=11:=dI e1
     rw [if_pos e1] at hgo1
     exact ⟨rfl,rfl,.inr ⟨11,[],_,_,_,k,by rw [←hgo,hgo1],.nil,rfl,rfl,by rw [e1];rfl⟩⟩
    ·replace e1:¬s=11:=dl e1
     rw [if_neg e1] at hgo1
     exact ⟨⟨h1,h2,hv,hvl⟩,rfl,rfl,.inr ⟨s,lg fl t v,_,_,_,k,by rw [←hgo,hgo1],.inr ⟨rfl,qv hv hvl⟩,rfl,rfl,rfl⟩⟩
  ·have hgo1:g7 ((fl,t,v)::(il b).drop (k+1)) f a=.inl (1,[]):=by
    simp only [g7,hf,cond_true]
   exact ⟨rfl,rfl,.inr ⟨1,[],_,_,_,k,by rw [←hgo,hgo1],.nil,rfl,rfl,rfl⟩⟩
 ·have hk2:k=(il b).length:=by omega
  refine bU ac aa Ru ag (Ja (eZ b) k 0 0 [] 0 false (fL f) [] a.o a.h a.m a.hm a.x _) ?_
  rw [hk2,List.drop_length] at hgo
  exact bg (decide_eq_false (show ¬((k:Nat):Int)<((eZ b).length:Nat) by omega)) ⟨rfl,rfl,.inl ⟨a,f,k,hgo.symm,rfl,rfl,rfl⟩⟩
theorem EW {b:Bs}(hb:IsB b){ok:Bool}{s:Int}{d:Bs}{o h m:Int}{hm xn:Bool}{xl:Bs}{c1 c2 c3:Bool}(hp:xI b ok s d o h m hm xn xl c1 c2 c3):dy prog ae (Vw 65 (eZ b) ok s d o h m hm xn xl c1 c2 c3 (aE prog ts 0)):=bO λp hq=>by
 obtain rfl:=mem_singleton.1 hq
 exact cd λK hK=>L2 hb hp K hK
theorem nI {b:Bs}{s:Int}{d:Bs}(h:im b=.inl (s,d)){dz:TV}(hd:TVle dz (.vec 1 d .none)):TVle (.tup [.agg [.val (.int .i64 0),rA,.val (.int .u32 0),.val (.int .i64 0),.val (.bool false)],.agg [.val (.int .i64 3),.val (.int .i64 s),dz]]) (qw b):=by
 unfold qw
 rw [h]
 exact .tup ⟨.agg ⟨.refl _,.nil 1,.refl _,.refl _,.refl _,trivial⟩,.agg ⟨.refl _,.refl _,hd,trivial⟩,trivial⟩
theorem Pd {b:Bs}{a:AtS}(h:im b=.inr a)(ha:a.Ok):TVle (.tup [a.tv,.agg [.val (.int .i64 0),.val (.int .i64 0),rA]]) (qw b):=by
 unfold qw
 rw [h]
 exact .tup ⟨ha.fix_le,.agg ⟨.refl _,.refl _,.nil 1,trivial⟩,trivial⟩
theorem zd (b:Bs)(f g:Nat→Option Nat)(hb:IsB b):(qw b).ren f g=qw b:=by
 have hd:∀s d,im b=.inl (s,d)→br f g d=d:=by
  intro s d h
  unfold im at h
  cases ho:jW b<;>rw [ho] at h
  ·injection h with h;injection h with h1 h2;rw [←h2];rfl
  ·simp only [cond_true] at h
   have key:∀(l:List ik) (f':Nat→Bool) (a:AtS),C2 l→∀s d,g7 l f' a=.inl (s,d)→br f g d=d:=by
    intro l
    induction l with
    |nil=>intro f' a _ s d e;cases e
    |cons p l ih=>
     obtain ⟨fl,t,v⟩:=p
     intro f' a hl s d e
     unfold g7 at e
     obtain ⟨_,_,hv,hvl⟩:=hl _ mem_cons_self
     cases hf:f' t.toNat<;>rw [hf] at e
     ·simp only [cond_false] at e
      split at e
      ·exact ih _ _ (λp hp=>hl p (List.mem_cons_of_mem _ hp)) s d e
      ·split at e
       ·injection e with e;injection e with e1 e2;rw [←e2];rfl
       ·injection e with e;injection e with e1 e2;rw [←e2];exact (qv hv hvl).ren f g
     ·injection e with e;injection e with e1 e2;rw [←e2];rfl
   split at h
   ·rename_i e he
    injection h with h;subst h
    exact key _ _ _ (za hb) s d he
   ·rename_i a f' he
    unfold rz at h
    cases g1:f' 1<;>cases g2:f' 2<;>cases g3:f' 3<;>simp only [g1,g2,g3,cond_true,cond_false] at h<;>first | (cases h;done) | (injection h with h;injection h with e1 e2;rw [←e2];rfl)
 have ha:∀a,im b=.inr a→a.Ok:=by
  intro a h
  unfold im at h
  cases ho:jW b<;>rw [ho] at h
  ·cases h
  ·simp only [cond_true] at h
   split at h
   ·cases h
   ·rename_i a' f' he
    have:=zc _ _ _ tq _ _ he
    unfold rz at h
    cases g1:f' 1<;>cases g2:f' 2<;>cases g3:f' 3<;>simp only [g1,g2,g3,cond_true,cond_false] at h<;>first | (cases h;done) | (injection h with h;exact h▸this)
 unfold qw
 split
 ·rename_i s d h
  simp only [TV.ren,aw,cH,hd s d h,tq.fix_ren,Tok.ren]
 ·rename_i a h
  simp only [TV.ren,aw,cH,(ha a h).fix_ren,Tok.ren,br]
theorem Rv {b:Bs}(hb:IsB b):VCx prog ae 0 ts [.vec 1 b .none] ⟨[],[]⟩ λx T'=>x=qw b∧T'=⟨[],[]⟩:=by
 have hS:bu prog ae (aT [(ti,G7)]):=aZ λp hp=>by obtain rfl:=mem_singleton.1 hp;exact O8 Re
 refine VCx.toLe (Q:=λT'=>T'=⟨[],[]⟩) (VCx.keepQ 0 0 (le_refl _) (le_refl _) ?_)
 cases hR:zb b with
 |inl e=>
  obtain ⟨s,d⟩:=e
  have hp:xI b false s d 0 0 0 false false [] false false false:=.inl ⟨rfl,hR⟩
  refine aj ac aa hS (EW hb hp) (M4 b false s d 0 0 0 false false [] false false false _) ?_
  refine ⟨hb,am (λho=>⟨rfl,⟨rfl,rfl,rfl,trivial,rfl,rfl,rfl⟩,λj dz rest tlz hd=>⟨?_,rfl⟩⟩) (λho=>⟨?_,rfl⟩)⟩
  ·have h1:im b=.inl (s,d):=by
    unfold im;rw [ho]
    simp only [cond_true]
    rw [show g7 (il b) (λ_=>false) vv=.inl (s,d) from hR]
   exact nI h1 (hd.le _ _)
  ·have h1:im b=.inl (1,[]):=by unfold im;rw [ho];rfl
   exact nI h1 (.refl _)
 |inr e=>
  obtain ⟨a,f⟩:=e
  have ha:=zc _ _ _ tq _ _ hR
  obtain ⟨xn,xl,hx,hl⟩:∃(xn:Bool) (xl:Bs),a.x=(bif xn then rA else .vec 1 xl .none)∧∀f g,br f g xl=xl:=by
   rcases ha with h | ⟨l,h⟩
   ·exact ⟨true,[],h,λ_ _=>rfl⟩
   ·exact ⟨false,iV l,h,λf g=>dW f g l⟩
  obtain ⟨o,h,m,hm,x⟩:=a
  simp only at hx
  subst hx
  have hp:xI b true 0 [] o h m hm xn xl (f 1) (f 2) (f 3):=.inr ⟨rfl,f,hR,rfl,rfl,rfl⟩
  have hgo:jW b=true→im b=rz ⟨o,h,m,hm,bif xn then rA else .vec 1 xl .none⟩ f:=λho=>by
   unfold im;rw [ho]
   simp only [cond_true]
   rw [show g7 (il b) (λ_=>false) vv=.inr (⟨o,h,m,hm,bif xn then rA else .vec 1 xl .none⟩,f) from hR]
  refine aj ac aa hS (EW hb hp) (M4 b true 0 [] o h m hm xn xl (f 1) (f 2) (f 3) _) ?_
  refine ⟨hb,am (λho=>⟨rfl,⟨rfl,rfl,rfl,trivial,rfl,rfl,rfl⟩,λj c0 rm=> ?_⟩) (λho=>⟨?_,rfl⟩)⟩
  ·have h2:=hgo ho
   unfold rz at h2
   cases e1:f 1
   ·rw [e1] at h2
    cases xn<;>exact ⟨nI h2 (TVle.vec 1 _ _),rfl⟩
   ·cases e2:f 2
    ·rw [e1,e2] at h2
     cases xn<;>exact ⟨nI h2 (TVle.vec 1 _ _),rfl⟩
    ·cases e3:f 3
     ·rw [e1,e2,e3] at h2
      cases xn<;>exact ⟨nI h2 (TVle.vec 1 _ _),rfl⟩
     ·rw [e1,e2,e3] at h2
      have h3:=Pd h2 ha
      cases xn
      ·refine ⟨?_,rfl⟩
       simp only [TV.ren,aw,hl,Tok.ren]
       exact h3
      ·exact ⟨h3,rfl⟩
  ·have h1:im b=.inl (1,[]):=by unfold im;rw [ho];rfl
   exact nI h1 (.refl _)
def g8 (b:Bs):Bool:=match im b with
 | .inr _=>true
 | .inl _=>false
def jL (b:Bs):Int:=match im b with
 | .inr _=>0
 | .inl e=>e.1
def je (b:Bs):Bs:=match im b with
 | .inr _=> []
 | .inl e=>e.2
def mR (b:Bs):AtS:=match im b with
 | .inr a=>a.fix
 | .inl _=>vv.fix
def mS (b:Bs):Int:=(mR b).o
def mT (b:Bs):Int:=(mR b).h
def mU (b:Bs):Int:=(mR b).m
def mV (b:Bs):Bool:=(mR b).hm
def iF (b:Bs):Bs:=match (mR b).x with
 | .vec _ l _=>l
 |_=> []
theorem UC (a:AtS):∃l,a.fix.x=.vec 1 l .none:=by
 unfold AtS.fix
 simp only
 split
 ·exact ⟨_,rfl⟩
 ·exact ⟨_,rfl⟩
theorem Jh (b:Bs):(mR b).x=.vec 1 (iF b) .none:=by
 obtain ⟨l,hl⟩:∃l,(mR b).x=.vec 1 l .none:=by
  unfold mR
  split<;>exact UC _
 rw [hl];unfold iF;rw [hl]
def ze (b:Bs):TV:=.agg [.val (.int .i64 (mS b)),.vec 1 (iF b) .none,.val (.int .u32 (mT b)),.val (.int .i64 (mU b)),.val (.bool (mV b))]
theorem EX (b:Bs):(mR b).tv=ze b:=by
 unfold AtS.tv ze
 rw [Jh];rfl
theorem Ji {b:Bs}(h:g8 b=true):qw b=.tup [ze b,cH 0 0 []]:=by
 rw [←EX]
 unfold qw mR
 unfold g8 at h
 cases e:im b with
 |inl x=>rw [e] at h;cases h
 |inr a=>rfl
theorem Jj {b:Bs}(h:g8 b=false):qw b=.tup [vv.fix.tv,cH 3 (jL b) (je b)]:=by
 unfold qw jL je
 unfold g8 at h
 cases e:im b with
 |inl x=>rfl
 |inr a=>rw [e] at h;cases h
theorem L3 {b:Bs}(hb:IsB b)(f g:Nat→Option Nat):(ze b).ren f g=ze b:=by
 cases h:g8 b
 ·rw [←EX]
  unfold mR
  unfold g8 at h
  cases e:im b with
  |inl x=>exact tq.fix_ren f g
  |inr a=>rw [e] at h;cases h
 ·have h1:=zd b f g hb
  rw [Ji h] at h1
  simp only [TV.ren,aw] at h1
  injection h1 with h1;injection h1 with h1
theorem L4 {b:Bs}(hb:IsB b)(f g:Nat→Option Nat):br f g (iF b)=iF b:=by
 have h:=L3 hb f g
 simp only [ze,TV.ren,aw] at h
 injection h with h;injection h with _ h;injection h with h;injection h with _ h
theorem L5 {b:Bs}(hb:IsB b)(f g:Nat→Option Nat):br f g (je b)=je b:=by
 cases h:g8 b
 ·have h1:=zd b f g hb
  rw [Jj h] at h1
  simp only [TV.ren,aw,cH] at h1
  injection h1 with h1;injection h1 with _ h1;injection h1 with h1;injection h1 with h1;injection h1 with _ h1;injection h1 with _ h1;injection h1 with h1;injection h1 with _ h1
 ·unfold je
  unfold g8 at h
  cases e:im b with
  |inl x=>rw [e] at h;cases h
  |inr a=>rfl
structure UpS where
 w:Bs
 o:Int
 x:Bs
 h:Int
 m:Int
 hm:Bool
 n:Bs
def UpS.cells (u:UpS):List TV:= [.vec 2 u.w .none,.val (.int .i64 u.o),.vec 1 u.x .none,.val (.int .u32 u.h),.val (.int .i64 u.m),.val (.bool u.hm),.vec 2 u.n .none]
def UpS.tv (u:UpS):TV:=.agg u.cells
def kK:UpS:=⟨[],0,[],0,0,false,[]⟩
def lh (b:Bs):Bs:=ar (aN 2 b 0) (ar (2:Nat) b 0) (au (2:Nat) b 0)
def oz (b:Bs):Int:=au (aN 2 b 0) (ar (2:Nat) b 0) (au (2:Nat) b 0)
def gJ (b:Bs):Bs:=b9 (aN 2 b 0) (ar (2:Nat) b 0) (au (2:Nat) b 0)
def cm (b:Bs):Bs:=b9 (aN 2 (lh b) (oz b)) (ar (2:Nat) (lh b) (oz b)) (au (2:Nat) (lh b) (oz b))
def zf (b:Bs):Bs:=ar (aN 2 (lh b) (oz b)) (ar (2:Nat) (lh b) (oz b)) (au (2:Nat) (lh b) (oz b))
def Hb (b:Bs):Int:=au (aN 2 (lh b) (oz b)) (ar (2:Nat) (lh b) (oz b)) (au (2:Nat) (lh b) (oz b))
def dQ (b:Bs):Bs:=b9 (bC (zf b) (Hb b)) (zf b) (Hb b)
def Rw (b:Bs):Int:=au (bC (zf b) (Hb b)) (zf b) (Hb b)
theorem EY {b:Bs}(h:IsB b):IsB (lh b):=aC (aC h)
theorem Jk {b:Bs}(h:IsB b):IsB (gJ b):=ig (aC h)
theorem xJ {b:Bs}(h:IsB b):IsB (cm b):=ig (aC (EY h))
theorem Jl {b:Bs}(h:IsB b):IsB (dQ b):=ig (aC (aC (EY h)))
def iL (b:Bs):(Int × Bs) ⊕ UpS:=
 if ¬Rw b=0 then .inl (1,[]) else
 bif gk (gJ b) then bif gk (dQ b) then
  (if (cm b).length=0∧(aX (dQ b)).length=0 then .inr {kK with w:=aX (gJ b),n:=aX (dQ b)}
  else bif g8 (cm b) then (if 0<(aX (dQ b)).length then .inr ⟨aX (gJ b),mS (cm b),iF (cm b),mT (cm b),mU (cm b),mV (cm b),aX (dQ b)⟩ else .inr {kK with w:=aX (gJ b),n:=aX (dQ b)})
  else if 0<(aX (dQ b)).length then .inl (jL (cm b),je (cm b)) else if jL (cm b)=3 then .inr {kK with w:=aX (gJ b),n:=aX (dQ b)} else .inl (jL (cm b),je (cm b)))
 else .inl (10,[]) else .inl (10,[])
def C6 (p:(Int × Bs) ⊕ UpS):TV:=match p with
 | .inl (s,d)=>.tup [kK.tv,cH 3 s d]
 | .inr u=>.tup [u.tv,cH 0 0 []]
def pq (b:Bs):TV:=C6 (iL b)
def L6 (u:UpS):Prop:=∀f g,u.tv.ren f g=u.tv
theorem Jm {b:Bs}(hb:IsB b){u:UpS}(h:iL b=.inr u):L6 u:=by
 have e1:L6 {kK with w:=aX (gJ b),n:=aX (dQ b)}:=λf g=>by simp only [UpS.tv,UpS.cells,kK,TV.ren,aw,uJ,Tok.ren,br]
 have e2:L6 ⟨aX (gJ b),mS (cm b),iF (cm b),mT (cm b),mU (cm b),mV (cm b),aX (dQ b)⟩:=λf g=>by simp only [UpS.tv,UpS.cells,TV.ren,aw,uJ,L4 (xJ hb),Tok.ren]
 unfold iL at h
 split at h
 ·cases h
 cases g1:gk (gJ b)<;>simp only [g1,cond_true,cond_false] at h
 ·cases h
 cases g2:gk (dQ b)<;>simp only [g2,cond_true,cond_false] at h
 ·cases h
 split at h
 ·injection h with h;exact h▸e1
 cases g3:g8 (cm b)<;>simp only [g3,cond_true,cond_false] at h
 ·split at h
  ·cases h
  split at h
  ·injection h with h;exact h▸e1
  ·cases h
 ·split at h
  ·injection h with h;exact h▸e2
  ·injection h with h;exact h▸e1
theorem Jn {b:Bs}(hb:IsB b){s:Int}{d:Bs}(h:iL b=.inl (s,d))(f g:Nat→Option Nat):br f g d=d:=by
 have hd:=L5 (xJ hb) f g
 unfold iL at h
 split at h
 ·injection h with h;injection h with _ h;rw [←h];rfl
 cases g1:gk (gJ b)<;>simp only [g1,cond_true,cond_false] at h
 ·injection h with h;injection h with _ h;rw [←h];rfl
 cases g2:gk (dQ b)<;>simp only [g2,cond_true,cond_false] at h
 ·injection h with h;injection h with _ h;rw [←h];rfl
 split at h
 ·cases h
 cases g3:g8 (cm b)<;>simp only [g3,cond_true,cond_false] at h
 ·split at h
  ·injection h with h;injection h with _ h;rw [←h];exact hd
  split at h
  ·cases h
  ·injection h with h;injection h with _ h;rw [←h];exact hd
 ·split at h<;>cases h
theorem EZ {b:Bs}(hb:IsB b)(f g:Nat→Option Nat):(pq b).ren f g=pq b:=by
 unfold pq C6
 split
 ·rename_i s d h
  have:=Jn hb h f g
  simp only [TV.ren,aw,cH,UpS.tv,UpS.cells,kK,br,this,Tok.ren]
 ·rename_i u h
  have:=Jm hb h f g
  simp only [TV.ren,aw,cH,this,br,Tok.ren]
abbrev E0:=67
def Hc:be:=λ_ ys T K=>match ys with
 |[.vec 1 b _]=>IsB b∧bif gk b then K (.tup [.vec 2 (aX b) .none,.val (.bool true)]) T else K (.tup [.vec 2 (aX b) .none,.val (.bool false)]) T
 |_=>aQ 83 default ys
def M6:be:=λ_ ys T K=>match ys with
 |[.vec 1 b _]=>IsB b∧bif g8 b then K (.tup [.agg [.val (.int .i64 (mS b)),.vec 1 (iF b) .none,.val (.int .u32 (mT b)),.val (.int .i64 (mU b)),.val (.bool (mV b))],.agg [.val (.int .i64 0),.val (.int .i64 0),.vec 1 [] .none]]) T
  else K (.tup [.agg [.val (.int .i64 0),.vec 1 [] .none,.val (.int .u32 0),.val (.int .i64 0),.val (.bool false)],.agg [.val (.int .i64 3),.val (.int .i64 (jL b)),.vec 1 (je b) .none]]) T
 |_=>aQ 83 default ys
theorem Pe {f:FuncId}(h:∀b,IsB b→VCx prog ae 0 f [.vec 1 b .none] ⟨[],[]⟩ λx T'=>x=Ai b∧T'=⟨[],[]⟩):∀ro ys T K,Hc ro ys T K→VCx prog ae ro f ys T K:=by
 intro ro ys T K hw
 unfold Hc at hw
 split at hw
 ·rename_i b tok
  refine VCx.loosePure aV (h b hw.1) (by simp [ea]) (by simp [aw,TV.ren,hw.1.ren,Tok.ren]) (λf h=>OH b f h) ?_
  have h2:=hw.2
  unfold Ai
  cases hh:gk b<;>rw [hh] at h2<;>exact h2
 ·exact hw.elim
theorem Rx {f:FuncId}(h:∀{b:Bs},IsB b→VCx prog ae 0 f [.vec 1 b .none] ⟨[],[]⟩ λx T'=>x=qw b∧T'=⟨[],[]⟩):∀ro ys T K,M6 ro ys T K→VCx prog ae ro f ys T K:=by
 intro ro ys T K hw
 unfold M6 at hw
 split at hw
 ·rename_i b tok
  refine VCx.loosePure aV (h hw.1) (by simp [ea]) (by simp [aw,TV.ren,hw.1.ren,Tok.ren]) (λf h=>zd b f h hw.1) ?_
  have h2:=hw.2
  cases hh:g8 b<;>rw [hh] at h2
  ·rw [Jj hh];exact h2
  ·rw [Ji hh];exact h2
 ·exact hw.elim
theorem M7 {n:Nat}(h:decide ((n:Int)>0)=true):0<n:=by
 have:=of_decide_eq_true h;omega
theorem zg {n:Nat}(h:decide ((n:Int)>0)=false):¬0<n:=by
 have:=of_decide_eq_false h;omega
section
variable {b:Bs}
end
theorem Ry {b:Bs}{z ez z2 e2 z3 e3 e4 e5 e6:Int}{r1 v r2 r3 a r4 n:Bs}(h1:z=aN (2:Nat) b 0∧r1=ar ((2:Nat):Int) b 0∧ez=au ((2:Nat):Int) b 0)(h2:v=b9 z r1 ez∧r2=ar z r1 ez∧e2=au z r1 ez)(h3:z3=aN (2:Nat) r2 e2∧r3=ar ((2:Nat):Int) r2 e2∧e3=au ((2:Nat):Int) r2 e2)(h4:a=b9 z3 r3 e3∧r4=ar z3 r3 e3∧e4=au z3 r3 e3)(h5:n=b9 (bC r4 e4) r4 e4∧e5=au (bC r4 e4) r4 e4):
  v=gJ b∧a=cm b∧n=dQ b∧e5=Rw b:=by
 obtain ⟨rfl,rfl,rfl⟩:=h1
 obtain ⟨rfl,rfl,rfl⟩:=h2
 obtain ⟨rfl,rfl,rfl⟩:=h3
 obtain ⟨rfl,rfl,rfl⟩:=h4
 obtain ⟨rfl,rfl⟩:=h5
 exact ⟨rfl,rfl,rfl,rfl⟩
def FzLe (T:VT)(x y:TV)(T2:VT):Prop:=∀g w u,RW g T w→VR g w x u→∃g',Evo g w g' w∧RW g' T2 w∧VR g' w y u
def FzL (T:VT)(l m:List TV)(T2:VT):Prop:=∀g w us,RW g T w→VRs g w l us→∃g',Evo g w g' w∧RW g' T2 w∧VRs g' w m us
theorem FzLe.le {T:VT}{x y:TV}(h:TVle x y):FzLe T x y T:=λg w u r hv=>⟨g,Evo.refl g w,r,h g w u hv⟩
theorem FzLe.row {T:VT}{id size off n:Nat}{es:List (List TV)}(h:bL T size (.row size id off n)=some es):FzLe T (.row size id off n) (.vec size es .none) (T.kill id):=λg w u r hv=>nl r h hv
theorem FzL.nil {T:VT}:FzL T [] [] T:=λg w us r hv=>⟨g,Evo.refl g w,r,hv⟩
theorem FzL.cons {T T1 T2:VT}{x y:TV}{l m:List TV}(h1:FzLe T x y T1)(h2:FzL T1 l m T2):FzL T (x::l) (y::m) T2:=by
 intro g w us r hv
 match us,hv with
 |[],hv=>have:=hv.1;simp at this
 |u::us,hv=>
  have hu:VR g w x u:=hv.2 0 x u rfl rfl
  have hus:VRs g w l us:=⟨by have:=hv.1;simpa using this,λj a v ha hv2=>hv.2 (j+1) a v (by simpa using ha) (by simpa using hv2)⟩
  obtain ⟨g1,e1,r1,v1⟩:=h1 g w u r hu
  obtain ⟨g2,e2,r2,v2⟩:=h2 g1 w us r1 (hus.mono e1)
  exact ⟨g2,e1.trans e2,r2,VRs.cons (v1.mono e2) v2⟩
theorem FzL.le {T T2:VT}{x:TV}{l m:List TV}(h2:FzL T l m T2):FzL T (x::l) (x::m) T2:=FzL.cons (.le (.refl x)) h2
theorem FzLe.agg {T T2:VT}{l m:List TV}(h:FzL T l m T2):FzLe T (.agg l) (.agg m) T2:=λg w u r hv=>by
 cases hv with
 |agg hl hv=>
  obtain ⟨g',e',r',h1,h2⟩:=h g w _ r ⟨hl,hv⟩
  exact ⟨g',e',r',.agg h1 h2⟩
theorem FzLe.tup {T T2:VT}{l m:List TV}(h:FzL T l m T2):FzLe T (.tup l) (.tup m) T2:=λg w u r hu=>by
 obtain ⟨us,rfl,hv⟩:=hu.tup_inv
 obtain ⟨g',e',r',h1,h2⟩:=h g w _ r hv
 exact ⟨g',e',r',.tup h1 h2⟩
theorem VCx.toFz {P:Program}{G:aP}{f:FuncId}{xs:List TV}{T:VT}{y:TV}{Q:VT→Prop}(h:VCx P G 0 f xs T λx T'=>∃T2,FzLe T' x y T2∧T'.objs.length≤T2.objs.length∧Q T2):VCx P G 0 f xs T λx T'=>x=y∧Q T':=by
 intro g w us rw0 hG hx
 refine Calls.mono (h g w us rw0 hG hx) ?_
 rintro e w' ⟨v,x,g',T',he,⟨T2,hq,hl,hQ⟩,e',r',hv,hfx⟩
 obtain ⟨g2,e2,r2,v2⟩:=hq g' w' v r' hv
 exact ⟨v,_,g2,T2,he,⟨rfl,hQ⟩,e'.trans e2,r2,v2,⟨le_trans hfx.len hl,λi hi=>absurd hi (not_lt_zero i),λi o b hi=>absurd hi (not_lt_zero i)⟩⟩
theorem VCx.anyG {P:Program}{G:aP}{ro:Nat}{f:FuncId}{xs:List TV}{T:VT}{Q:TV→VT→Prop}(h:VCx P (λ_=>none) ro f xs T Q):VCx P G ro f xs T Q:=λg w us rw0 _ hx=>h g w us rw0 (λn cs hn=>by cases hn) hx
section
open Go.ChangeShapes Go.WideShapes Go.ChangeAt Go.RowKit Go.Joins Go.Deep
section
variable {H:Type}{enc:TypeId × Value→H}{P:Program}{w:World}{base:Nat}{spare:Nat→Bool}{held:Bool}
theorem Jo {r:Reach}{b0:Nat}{t e:TypeId}{a:Addr}{n c:Nat}(ht:P.underlying t=some (.slice e))(hv:okWide P w r b0 t (.slice (some a) n c)):a.spot=none:=by
 simp only [ht,okWide,Cell.ok] at hv
 exact hv.2.2.2.1
theorem M8 {α:Type}(f:α→TV):∀l:List α,(l.map λi=> [f i]).flatten=l.map f
 |[]=>rfl
 |a::l=>by simp [M8 f l]
theorem Pf {r:Reach}{b0 m:Nat}{t e:TypeId}{k:IntKind}{u:Value}{y:DataW H × List MemPlace}(ht:P.underlying t=some (.slice e))(he:P.underlying e=some (.int k))(hc:P.cellsOf e=1)(hok:okWide P w r b0 t u)
  (h:DataW.trod enc P w base spare held m t [u]=some y):∃l:List (List TV),VR (lM w) w (.vec 1 l .none) u∧∀x∈l,∃z,x= [.val (.int k z)]∧(Lit.int k z).wf=true:=by
 rcases open_slice1 ht hc h with ⟨hcs,_⟩ | ⟨a,len,cap,m',n',V,D,Pl,hcs,hb,hl,hm,hmm,hx,hall⟩
 ·injection hcs with hcs;subst hcs
  exact ⟨[],.nil trivial,λx h=>by cases h⟩
 ·injection hcs with hcs;subst hcs
  have hs:=Jo ht hok
  obtain ⟨b,o,sp⟩:=a
  simp only at hs
  subst hs
  have hlm:len≤m':=by rw [hmm];split<;>omega
  have each:∀i,i<len→∃z,V i=.int k z∧(Lit.int k z).wf=true:=λi hi=>by
   obtain ⟨_,h2⟩:=hall i (by omega)
   obtain ⟨z,e0,wz⟩:=K6 he h2
   exact ⟨z,e0,wz⟩
  have cellj:∀j,j<len→w.cell? ⟨b,o+j,none⟩=some (V j):=λj hj=>by
   have h1:=(hall j (by omega)).1
   have h2:(⟨b,o,none⟩:Addr).add j=⟨b,o+j,none⟩:=by
    cases j<;>simp [Addr.add]
   rw [h2] at h1
   exact h1
  refine ⟨(List.range len).map λi=> [.val (V i)],?_,?_⟩
  ·have hlen:((List.range len).map λi=> [TV.val (V i)]).length=len:=by simp
   have hfl:=M8 (λi=>TV.val (V i)) (List.range len)
   have key:VR (lM w) w (.vec 1 ((List.range len).map λi=> [TV.val (V i)]) .none) (.slice (some ⟨b,o,none⟩) ((List.range len).map λi=> [TV.val (V i)]).length cap):=by
    refine .vec (us:=(List.range len).map V) (by rw [hlen];exact hl) hm ?_ trivial (by rw [hfl];simp) ?_ ?_ ?_ ?_
    ·intro x hx
     obtain ⟨i,_,rfl⟩:=mem_map.1 hx
     rfl
    ·intro u hu
     obtain ⟨i,hi,rfl⟩:=mem_map.1 hu
     obtain ⟨z,hz,_⟩:=each i (List.mem_range.1 hi)
     rw [hz];rfl
    ·intro j hj
     rw [hfl] at hj
     simp at hj
     show (w.cell? ⟨b,o+j,none⟩).isSome=true
     rw [cellj j hj];rfl
    ·intro j u hu
     rw [getElem?_map] at hu
     rcases lt_or_ge j len with hj | hj
     ·rw [getElem?_range hj] at hu
      injection hu with hu;subst hu
      exact cellj j hj
     ·rw [List.getElem?_eq_none (by simpa using hj)] at hu;cases hu
    ·intro j x u hx hu
     rw [hfl,getElem?_map] at hx
     rw [getElem?_map] at hu
     rcases lt_or_ge j len with hj | hj
     ·rw [getElem?_range hj] at hx hu
      injection hx with hx;subst hx
      injection hu with hu;subst hu
      exact .val _
     ·rw [List.getElem?_eq_none (by simpa using hj)] at hu;cases hu
   rw [hlen] at key
   exact key
  ·intro x hx
   obtain ⟨i,hi,rfl⟩:=mem_map.1 hx
   obtain ⟨z,hz,wz⟩:=each i (List.mem_range.1 hi)
   exact ⟨z,by rw [hz],wz⟩
end
end
section
open Go.ChangeShapes Go.WideShapes Go.ChangeAt Go.RowKit Go.Joins Go.Deep
def aM:aP:=λn=>bif beq n 0 then some [.val (.int .i64 0),.val (.int .i64 29),.val (.int .i64 23),.val (.int .i64 21),.val (.int .i64 19)] else none
theorem bc:eJ aM:=λn cs h=>by
 unfold aM at h
 cases hb:beq n 0 with
 |false=>rw [hb] at h;cases h
 |true=>
  rw [hb] at h
  injection h with h;subst h
  exact ⟨[.int .i64 0,.int .i64 29,.int .i64 23,.int .i64 21,.int .i64 19],rfl⟩
end
def jf (b:Bs):Bool:=(b.take 16).all λr=>decide (gU r=255)
def iM (b:Bs):Int:=dD 2 (b.drop 16)
def pt (b:Bs):Int:=gU ((b.drop 18).headD [])
def m9 (b:Bs):Bs:=(b.drop 16).take 2
def C7 (b:Bs):Bs:=(b.drop 18).take 1
def zh (k:Int):Int:=if k=1 then 29 else if k=2 then 23 else if k=3 then 21 else 19
def oA (b:Bs):(Int × Bs) ⊕ (Int × Int):=
 if b.length<19 then .inr (0,0) else bif jf b then
  (if iM b<19∨iM b>4096 then .inl (2,m9 b) else if pt b<1∨pt b>4 then .inl (3,C7 b)
  else if iM b<zh (pt b)∨(pt b=4∧¬iM b=19) then .inl (2,m9 b) else .inr (iM b,pt b))
 else .inl (1,[])
def dm (b:Bs):Bool:=match oA b with
 | .inr _=>true
 | .inl _=>false
def bM (b:Bs):Int:=match oA b with
 | .inr p=>p.1
 | .inl _=>0
def eL (b:Bs):Int:=match oA b with
 | .inr p=>p.2
 | .inl _=>0
def mG (b:Bs):Int:=match oA b with
 | .inr _=>0
 | .inl p=>p.1
def ll (b:Bs):Bs:=match oA b with
 | .inr _=> []
 | .inl p=>p.2
def Jp (p:(Int × Bs) ⊕ (Int × Int)):TV:=match p with
 | .inl (s,d)=>.tup [.val (.int .i64 0),.val (.int .i64 0),cH 1 s d]
 | .inr (n,k)=>.tup [.val (.int .i64 n),.val (.int .i64 k),cH 0 0 []]
def tu (b:Bs):TV:=Jp (oA b)
theorem xK {b:Bs}(hb:IsB b):IsB (ll b):=by
 have h1:IsB (m9 b):=(hb.drop 16).take 2
 have h2:IsB (C7 b):=(hb.drop 18).take 1
 unfold ll oA
 split
 ·exact .nil
 ·rename_i p hp
  split at hp
  ·cases hp
  cases h:jf b<;>rw [h] at hp<;>simp only [cond_true,cond_false] at hp
  ·injection hp with hp;rw [←hp];exact .nil
  split at hp
  ·injection hp with hp;rw [←hp];exact h1
  split at hp
  ·injection hp with hp;rw [←hp];exact h2
  split at hp
  ·injection hp with hp;rw [←hp];exact h1
  ·cases hp
theorem Jq {b:Bs}(h:dm b=true):tu b=.tup [.val (.int .i64 (bM b)),.val (.int .i64 (eL b)),cH 0 0 []]:=by
 unfold tu Jp bM eL
 unfold dm at h
 cases e:oA b with
 |inl x=>rw [e] at h;cases h
 |inr p=>rfl
theorem Jr {b:Bs}(h:dm b=false):tu b=.tup [.val (.int .i64 0),.val (.int .i64 0),cH 1 (mG b) (ll b)]:=by
 unfold tu Jp mG ll
 unfold dm at h
 cases e:oA b with
 |inl x=>rfl
 |inr p=>rw [e] at h;cases h
theorem E1 {b:Bs}(hb:IsB b)(f g:Nat→Option Nat):(tu b).ren f g=tu b:=by
 cases h:dm b
 ·rw [Jr h];simp only [TV.ren,aw,cH,(xK hb).ren,Tok.ren]
 ·rw [Jq h];simp only [TV.ren,aw,cH,br,Tok.ren]
structure OpS where
 n:Int
 h:Int
 i:Int
 l:Bs
def E2:OpS:=⟨0,0,0,[]⟩
def OpS.cells (o:OpS):List TV:= [.val (.int .i64 o.n),.val (.int .i64 o.h),.val (.int .u32 o.i),.vec 2 o.l .none]
def Wd (x:TV):(Int × Bs) ⊕ OpS:=match x with
 | .tup [.agg [.val (.int _ n),.val (.int _ h),.val (.int _ i),.vec _ l _],.agg [.val (.int _ c),.val (.int _ s),.vec _ d _]]=>if c=0 then .inr ⟨n,h,i,l⟩ else .inl (s,d)
 |_=>.inl (0,[])
def r6 (b:Bs)(pas:Int):(Int × Bs) ⊕ OpS:=Wd (jV b pas)
def Rz (p:(Int × Bs) ⊕ OpS):TV:=match p with
 | .inl (s,d)=>.tup [.agg E2.cells,cH 2 s d]
 | .inr o=>.tup [.agg o.cells,cH 0 0 []]
theorem wh (b:Bs)(pas:Int)(hb:IsB b):(∃s d,jV b pas=dN s d∧∀f g,br f g d=d)∨(∃n h i l,jV b pas=qr n h i l∧∀f g,br f g l=l):=by
 unfold jV
 split
 ·exact .inl ⟨_,_,rfl,λ_ _=>rfl⟩
 split
 ·exact .inl ⟨_,_,rfl,λ_ _=>rfl⟩
 unfold xw fU
 split
 ·exact .inl ⟨_,_,rfl,λ_ _=>rfl⟩
 split
 ·exact .inl ⟨_,_,rfl,λ_ _=>rfl⟩
 split
 ·exact .inl ⟨_,_,rfl,λ_ _=>rfl⟩
 split
 ·exact .inl ⟨_,_,rfl,λ_ _=>rfl⟩
 split
 ·exact .inl ⟨_,_,rfl,λ_ _=>rfl⟩
 cases h:gI _ _
 ·exact .inl ⟨_,_,rfl,λ_ _=>rfl⟩
 ·exact .inr ⟨_,_,_,_,rfl,λf g=>y7 (aC (aC (aC (aC (aC hb))))) _ f g⟩
theorem Js (b:Bs)(pas:Int)(hb:IsB b):jV b pas=Rz (r6 b pas):=by
 unfold r6
 rcases wh b pas hb with ⟨s,d,h,_⟩ | ⟨n,hh,i,l,h,_⟩<;>rw [h]<;>rfl
def iG (b:Bs)(pas:Int):Bool:=match r6 b pas with
 | .inr _=>true
 | .inl _=>false
def tw (b:Bs)(pas:Int):OpS:=match r6 b pas with
 | .inr o=>o
 | .inl _=>E2
def L7 (b:Bs)(pas:Int):Int:=(tw b pas).n
def L8 (b:Bs)(pas:Int):Int:=(tw b pas).h
def L9 (b:Bs)(pas:Int):Int:=(tw b pas).i
def tz (b:Bs)(pas:Int):Bs:=(tw b pas).l
def tA (b:Bs)(pas:Int):Int:=match r6 b pas with
 | .inr _=>0
 | .inl p=>p.1
def lT (b:Bs)(pas:Int):Bs:=match r6 b pas with
 | .inr _=> []
 | .inl p=>p.2
theorem Jt {b:Bs}{pas:Int}(hb:IsB b)(h:iG b pas=true):jV b pas=.tup [.agg (tw b pas).cells,cH 0 0 []]:=by
 rw [Js b pas hb]
 unfold Rz tw
 unfold iG at h
 cases e:r6 b pas with
 |inl x=>rw [e] at h;cases h
 |inr p=>rfl
theorem Ju {b:Bs}{pas:Int}(hb:IsB b)(h:iG b pas=false):jV b pas=.tup [.agg E2.cells,cH 2 (tA b pas) (lT b pas)]:=by
 rw [Js b pas hb]
 unfold Rz tA lT
 unfold iG at h
 cases e:r6 b pas with
 |inl x=>rfl
 |inr p=>rw [e] at h;cases h
theorem C8 {b:Bs}(pas:Int)(hb:IsB b)(f g:Nat→Option Nat):br f g (lT b pas)=lT b pas:=by
 unfold lT r6
 rcases wh b pas hb with ⟨s,d,h,h2⟩ | ⟨n,hh,i,l,h,h2⟩<;>rw [h]
 ·exact h2 f g
 ·rfl
theorem C9 {b:Bs}(pas:Int)(hb:IsB b)(f g:Nat→Option Nat):br f g (tz b pas)=tz b pas:=by
 unfold tz tw r6
 rcases wh b pas hb with ⟨s,d,h,h2⟩ | ⟨n,hh,i,l,h,h2⟩<;>rw [h]
 ·rfl
 ·exact h2 f g
theorem E3 {b:Bs}(pas:Int)(hb:IsB b)(f g:Nat→Option Nat):(jV b pas).ren f g=jV b pas:=by
 cases h:iG b pas
 ·rw [Ju hb h];simp only [TV.ren,aw,cH,E2,OpS.cells,br,C8 pas hb,Tok.ren]
 ·rw [Jt hb h]
  have:=C9 pas hb f g
  unfold tz at this
  simp only [TV.ren,aw,cH,OpS.cells,br,this,Tok.ren]
def jg (b:Bs):Bool:=match iL b with
 | .inr _=>true
 | .inl _=>false
def lm (b:Bs):UpS:=match iL b with
 | .inr u=>u
 | .inl _=>kK
def tB (b:Bs):Int:=match iL b with
 | .inr _=>0
 | .inl p=>p.1
def lU (b:Bs):Bs:=match iL b with
 | .inr _=> []
 | .inl p=>p.2
def Hd (b:Bs):Bs:=(lm b).w
def He (b:Bs):Int:=(lm b).o
def Hf (b:Bs):Bs:=(lm b).x
def Hg (b:Bs):Int:=(lm b).h
def Hh (b:Bs):Int:=(lm b).m
def Hi (b:Bs):Bool:=(lm b).hm
def Hj (b:Bs):Bs:=(lm b).n
theorem RA {b:Bs}(h:jg b=true):pq b=.tup [.agg (lm b).cells,cH 0 0 []]:=by
 unfold pq C6 lm
 unfold jg at h
 cases e:iL b with
 |inl x=>rw [e] at h;cases h
 |inr p=>rfl
theorem RB {b:Bs}(h:jg b=false):pq b=.tup [.agg kK.cells,cH 3 (tB b) (lU b)]:=by
 unfold pq C6 tB lU
 unfold jg at h
 cases e:iL b with
 |inl x=>rfl
 |inr p=>rw [e] at h;cases h
theorem Ma {b:Bs}(hb:IsB b)(f g:Nat→Option Nat):br f g (lU b)=lU b:=by
 unfold lU
 cases e:iL b with
 |inl x=>exact Jn hb e f g
 |inr p=>rfl
theorem Pg {b:Bs}(hb:IsB b)(f g:Nat→Option Nat):aw f g (lm b).cells=(lm b).cells:=by
 unfold lm
 cases e:iL b with
 |inl x=>rfl
 |inr p=>
  have:=Jm hb e f g
  simp only [UpS.tv,TV.ren] at this
  injection this
def Da (b:Bs):Int:=gU (b[0]?.getD [])
def Db (b:Bs):Int:=gU (b[1]?.getD [])
def Dc (b:Bs):Bs:=b.drop 2
theorem xN (b:Bs):EJ b=bif jU b then .tup [cH (Da b) (Db b) (Dc b),.val (.bool true)] else .tup [cH 0 0 [],.val (.bool false)]:=rfl
theorem E4 {b:Bs}(hb:IsB b)(f g:Nat→Option Nat):(EJ b).ren f g=EJ b:=by
 have:=(hb.drop 2).ren f g
 unfold EJ
 cases jU b
 ·rfl
 ·simp only [cond_true,TV.ren,aw,this,Tok.ren]
structure MsgS where
 k:Int
 op:OpS
 u:UpS
 c:Int
 s:Int
 d:Bs
def MsgS.cells (m:MsgS):List TV:=(.val (.int .i64 m.k))::(m.op.cells++(m.u.cells++ [.val (.int .i64 m.c),.val (.int .i64 m.s),.vec 1 m.d .none]))
def m0:MsgS:=⟨0,E2,kK,0,0,[]⟩
def fa (b:Bs)(pas:Int):(Int × Int × Bs) ⊕ MsgS:=
 bif dm b then
  (if b.length<19 then .inl (1,2,[]) else if ¬bM b=b.length then .inl (1,2,m9 b) else
  if eL b=1 then (bif iG (b.drop 19) pas then .inr {m0 with k:=eL b,op:=tw (b.drop 19) pas} else .inl (2,tA (b.drop 19) pas,lT (b.drop 19) pas))
  else if eL b=2 then (bif jg (b.drop 19) then .inr {m0 with k:=eL b,u:=lm (b.drop 19)} else .inl (3,tB (b.drop 19),lU (b.drop 19)))
  else if eL b=3 then (bif jU (b.drop 19) then .inr {m0 with k:=eL b,c:=Da (b.drop 19),s:=Db (b.drop 19),d:=Dc (b.drop 19)} else .inl (1,2,m9 b))
  else .inr {m0 with k:=eL b})
 else .inl (1,mG b,ll b)
def M9 (p:(Int × Int × Bs) ⊕ MsgS):TV:=match p with
 | .inl (c,s,d)=>.tup [.agg m0.cells,cH c s d]
 | .inr m=>.tup [.agg m.cells,cH 0 0 []]
def xO (b:Bs)(pas:Int):TV:=M9 (fa b pas)
def Mb (m:MsgS):Prop:=∀f g,aw f g m.cells=m.cells
theorem Mc (f g:Nat→Option Nat)(l m:List TV):aw f g (l++m)=aw f g l++aw f g m:=by simp only [fZ,map_append]
theorem qx {m:MsgS}(h1:∀f g,aw f g m.op.cells=m.op.cells)(h2:∀f g,aw f g m.u.cells=m.u.cells)(h3:∀f g,br f g m.d=m.d):Mb m:=λf g=>by
 simp only [MsgS.cells,aw,Mc,h1,h2,TV.ren,h3,Tok.ren]
theorem RC {b:Bs}{pas:Int}(hb:IsB b){m:MsgS}(h:fa b pas=.inr m):Mb m:=by
 have hd:=hb.drop 19
 unfold fa at h
 cases h1:dm b<;>rw [h1] at h<;>simp only [cond_true,cond_false] at h
 ·cases h
 split at h
 ·cases h
 split at h
 ·cases h
 split at h
 ·cases h2:iG (b.drop 19) pas<;>rw [h2] at h<;>simp only [cond_true,cond_false] at h
  ·cases h
  ·injection h with h;subst h
   refine qx (λf g=> ?_) (λ_ _=>rfl) (λ_ _=>rfl)
   have:=C9 pas hd f g
   unfold tz at this
   simp only [OpS.cells,aw,TV.ren,this,Tok.ren]
 split at h
 ·cases h2:jg (b.drop 19)<;>rw [h2] at h<;>simp only [cond_true,cond_false] at h
  ·cases h
  ·injection h with h;subst h
   exact qx (λ_ _=>rfl) (λf g=>Pg hd f g) (λ_ _=>rfl)
 split at h
 ·cases h2:jU (b.drop 19)<;>rw [h2] at h<;>simp only [cond_true,cond_false] at h
  ·cases h
  ·injection h with h;subst h
   exact qx (λ_ _=>rfl) (λ_ _=>rfl) (λf g=>(hd.drop 2).ren f g)
 ·injection h with h;subst h
  exact qx (λ_ _=>rfl) (λ_ _=>rfl) (λ_ _=>rfl)
theorem RD {b:Bs}{pas:Int}(hb:IsB b){c s:Int}{d:Bs}(h:fa b pas=.inl (c,s,d))(f g:Nat→Option Nat):br f g d=d:=by
 have hd:=hb.drop 19
 have hz:IsB (m9 b):=(hb.drop 16).take 2
 unfold fa at h
 cases h1:dm b<;>rw [h1] at h<;>simp only [cond_true,cond_false] at h
 ·injection h with h;injection h with _ h;injection h with _ h;rw [←h];exact (xK hb).ren f g
 split at h
 ·injection h with h;injection h with _ h;injection h with _ h;rw [←h];rfl
 split at h
 ·injection h with h;injection h with _ h;injection h with _ h;rw [←h];exact hz.ren f g
 split at h
 ·cases h2:iG (b.drop 19) pas<;>rw [h2] at h<;>simp only [cond_true,cond_false] at h
  ·injection h with h;injection h with _ h;injection h with _ h;rw [←h];exact C8 pas hd f g
  ·cases h
 split at h
 ·cases h2:jg (b.drop 19)<;>rw [h2] at h<;>simp only [cond_true,cond_false] at h
  ·injection h with h;injection h with _ h;injection h with _ h;rw [←h];exact Ma hd f g
  ·cases h
 split at h
 ·cases h2:jU (b.drop 19)<;>rw [h2] at h<;>simp only [cond_true,cond_false] at h
  ·injection h with h;injection h with _ h;injection h with _ h;rw [←h];exact hz.ren f g
  ·cases h
 ·cases h
theorem E5 {b:Bs}(pas:Int)(hb:IsB b)(f g:Nat→Option Nat):(xO b pas).ren f g=xO b pas:=by
 unfold xO M9
 split
 ·rename_i c s d h
  have:=RD hb h f g
  have h0:aw f g m0.cells=m0.cells:=rfl
  simp only [TV.ren,aw,cH,this,h0,Tok.ren]
 ·rename_i m h
  have:=RC hb h f g
  simp only [TV.ren,aw,cH,this,br,Tok.ren]
abbrev Av:=41
abbrev E6:=44
def iN (z0 z1 z2 z3 z4 z5 z6 z7 z8 z9 z10 z11 z12 z13 z14 z15 z16 z17 z18:Int)(w:Bs):Bs:=bT z0::bT z1::bT z2::bT z3::bT z4::bT z5::bT z6::bT z7::bT z8::bT z9::bT z10::bT z11::bT z12::bT z13::bT z14::bT z15::bT z16::bT z17::bT z18::w
theorem jY {n:Nat}{l:List Int}(h:n+1≤l.length):∃z l',l=z::l'∧n≤l'.length:=by
 cases l with
 |nil=>simp at h
 |cons z l=>exact ⟨z,l,rfl,by simpa using h⟩
def inZ (z:Int):Prop:=0≤z∧z<256
theorem inZ.wrap {z:Int}(h:inZ z):IntKind.wrap i64 z=z:=dE (by have:=h.1;omega) (by have:=h.2;omega)
theorem Aw:∀l:List Int,dH (l.map (Value.int .u8)) (l.map λ_=>Value.int .u8 255)=(bV l).all λr=>decide (gU r=255)
 |[]=>rfl
 |z::l=>by
  have h:=Aw l
  have e:cl (Value.int .u8 z) (Value.int .u8 255)=decide (z=255):=by simp [cl,Bool.beq_eq_decide_eq]
  simp only [map_cons,dH,bV,List.all_cons,e] at h ⊢
  rw [show gU (bT z)=z from rfl]
  rw [h]
  cases decide (z=255)<;>rfl
theorem Ph {b:Bs}(hb:IsB b):0≤dD 2 b∧dD 2 b<65536:=by
 obtain ⟨⟨l,hl,hz⟩,_⟩:=hb.take 2
 have hlen:l.length≤2:=by
  have:=congrArg length hl
  simp only [bV,length_map,length_take] at this
  omega
 have h:=sU hz
 unfold dD
 rw [show (2:Int).toNat=2 from rfl,hl]
 refine ⟨h.1,Int.lt_of_lt_of_le h.2 ?_⟩
 have:l.length=0∨l.length=1∨l.length=2:=by omega
 rcases this with h | h | h<;>rw [h]<;>decide
def Jv (k:Int):List TV:=([.val (.int .i64 0),.val (.int .i64 29),.val (.int .i64 23),.val (.int .i64 21),.val (.int .i64 19)]:List TV).drop (k.toNat+1)
theorem Hk {k:Int}(h1:1≤k)(h4:k≤4):aS prog aM (.indexAddr 141 (.global 0) (.tmp 70)) [(70,(.val (.int .i64 k)))] (.elt ([.val (.int .i64 (zh k))]++Jv k)):=by
 have h:k=1∨k=2∨k=3∨k=4:=by omega
 rcases h with rfl | rfl | rfl | rfl<;>exact ⟨by kernel_rfl⟩
section
variable {b:Bs}
theorem rB (h:¬b.length<19):oA b=bif jf b then
  (if iM b<19∨iM b>4096 then .inl (2,m9 b) else if pt b<1∨pt b>4 then .inl (3,C7 b)
  else if iM b<zh (pt b)∨(pt b=4∧¬iM b=19) then .inl (2,m9 b) else .inr (iM b,pt b))
 else .inl (1,[]):=by unfold oA;rw [if_neg h]
end
section
variable {b:Bs}{pas:Int}
def oB:TV:=.val (.slice none 0 0)
theorem UD:TVle (.agg [.val (.int .i64 0),.val (.int .i64 0),.val (.int .i64 0),.val (.int .u32 0),oB,oB,.val (.int .i64 0),oB,.val (.int .u32 0),.val (.int .i64 0),.val (.bool false),oB,.val (.int .i64 0),.val (.int .i64 0),oB]) (.agg m0.cells):=
 .agg ⟨.refl _,.refl _,.refl _,.refl _,.nil 2,.nil 2,.refl _,.nil 1,.refl _,.refl _,.refl _,.nil 2,.refl _,.refl _,.nil 1,trivial⟩
theorem Pi (h:dm b=false):fa b pas=.inl (1,mG b,ll b):=by unfold fa;rw [h];rfl
theorem Md (h:dm b=true)(hl:¬b.length<19):fa b pas=if ¬bM b=b.length then .inl (1,2,m9 b) else
 if eL b=1 then (bif iG (b.drop 19) pas then .inr {m0 with k:=eL b,op:=tw (b.drop 19) pas} else .inl (2,tA (b.drop 19) pas,lT (b.drop 19) pas))
 else if eL b=2 then (bif jg (b.drop 19) then .inr {m0 with k:=eL b,u:=lm (b.drop 19)} else .inl (3,tB (b.drop 19),lU (b.drop 19)))
 else if eL b=3 then (bif jU (b.drop 19) then .inr {m0 with k:=eL b,c:=Da (b.drop 19),s:=Db (b.drop 19),d:=Dc (b.drop 19)} else .inl (1,2,m9 b))
 else .inr {m0 with k:=eL b}:=by unfold fa;rw [h,cond_true,if_neg hl]
end
section
variable {P:Program}{G:aP}
end
theorem xQ:∀l:List Int,lD (bV l)=some l
 |[]=>rfl
 |z::l=>by
  have h:=xQ l
  simp only [bV,map_cons] at h ⊢
  simp only [bT,lD,h]
  rfl
def Dd (d:Bs):ByteArray:=A4 ((lD d).getD [])
theorem V6 (s:ByteArray):av eql (aq (.string s) (.string s))=true:=by
 have h:=(HM (c:=.str) (x:=.string s) (y:=.string s) rfl rfl).2 rfl
 simp [av,aq,h]
theorem Jw (k:IntKind)(z:Int):av eql (aq (.int k z) (.int k z))=true:=by simp [av,aq,cl]
--bumped 32
def eM (z:Int):TV:=.val (.int .u8 z)
def an (cs:List TV)(off n:Nat):Bs:=dh 1 n ((cs.drop off).take n)
def RwOk (cs:List TV)(off n:Nat):Prop:=off+n≤cs.length∧cs.length≤32000000∧∃l:List Int,cs=l.map eM∧∀z∈l,0≤z∧z<256
theorem Ax:∀l:List Int,dh 1 l.length (l.map eM)=bV l
 |[]=>rfl
 |z::l=>by
  have h:=Ax l
  simp only [length_cons,map_cons,dh,take_succ_cons,take_zero,List.drop_succ_cons,List.drop_zero,h]
  rfl
theorem nq {l:List Int}{off n:Nat}(h:off+n≤l.length):an (l.map eM) off n=bV ((l.drop off).take n):=by
 have e:((l.map eM).drop off).take n=((l.drop off).take n).map eM:=by rw [←List.map_drop,←List.map_take]
 have hl:((l.drop off).take n).length=n:=by rw [length_take,length_drop];omega
 have h2:=Ax ((l.drop off).take n)
 rw [hl] at h2
 unfold an
 rw [e,h2]
theorem io (cs:List TV)(off n:Nat):(an cs off n).length=n:=ng 1 n _
section
variable {cs:List TV}{off n:Nat}
theorem RwOk.is (h:RwOk cs off n):IsB (an cs off n):=by
 obtain ⟨h1,h2,l,rfl,hl⟩:=h
 rw [length_map] at h1 h2
 refine ⟨⟨(l.drop off).take n,nq h1,λz hz=>hl z (List.mem_of_mem_drop (List.mem_of_mem_take hz))⟩,?_⟩
 rw [io];omega
theorem RwOk.sub (h:RwOk cs off n){o m:Nat}(h2:o+m≤cs.length):RwOk cs o m:=⟨h2,h.2.1,h.2.2⟩
theorem Jx (f g:Nat→Option Nat):∀l:List Int,aw f g (l.map eM)=l.map eM
 |[]=>rfl
 |z::l=>by simp only [map_cons,aw,Jx f g l];rfl
theorem RwOk.ren (h:RwOk cs off n)(f g:Nat→Option Nat):(VO.row cs).ren f g=.row cs:=by
 obtain ⟨_,_,l,rfl,_⟩:=h
 simp only [VO.ren,Jx]
theorem Pj (h:RwOk cs off n){m:Nat}(hm:m≤n):(an cs off n).drop m=an cs (off+m) (n-m):=by
 obtain ⟨h1,h2,l,rfl,hl⟩:=h
 rw [length_map] at h1
 rw [nq h1,nq (by omega),bV,bV,←List.map_drop,List.drop_take,List.drop_drop]
theorem Pk (h:RwOk cs off n){m:Nat}(hm:m≤n):(an cs off n).take m=an cs off m:=by
 obtain ⟨h1,h2,l,rfl,hl⟩:=h
 rw [length_map] at h1
 rw [nq h1,nq (by omega),bV,bV,←List.map_take,List.take_take,Nat.min_eq_left hm]
end
section
variable {P:Program}{G:aP}
theorem VCx.fzRow {f:FuncId}{xs:List TV}{cs:List TV}{y:TV}(hc:∀f g,(VO.row cs).ren f g=.row cs)(hy:∀f g,y.ren f g=y)(h:VCx P G 0 f xs ⟨[.row cs],[]⟩ λx T'=>∃T2,FzLe T' x y T2∧T'.objs.length≤T2.objs.length∧T2.objs[0]?=some (.row cs)):
  VCx P G 0 f xs ⟨[.row cs],[]⟩ λx T'=>x=y∧T'=⟨[.row cs],[]⟩:=by
 refine VCx.keepQ 1 0 (le_refl _) (le_refl _) ((VCx.toFz (y:=y) (Q:=λT2=>T2.objs[0]?=some (.row cs)) h).mono ?_)
 rintro x T' ⟨rfl,h0⟩
 refine ⟨hy _ _,?_⟩
 obtain ⟨objs,tails⟩:=T'
 cases objs with
 |nil=>simp at h0
 |cons o l=>
  simp at h0;subst h0
  simp only [VT.keep,take_succ_cons,take_zero,map_cons,map_nil,hc]
theorem VCx.atRow {f:FuncId}{ro k:Nat}{cs:List TV}{ys0 ys1:List TV}{y:TV}{T:VT}{K:TV→VT→Prop}(hG:eJ G)(hro:ro≤k)(ho:T.objs[k]?=some (.row cs))(hc:∀f g,(VO.row cs).ren f g=.row cs)(hy:∀f g,y.ren f g=y)(hx:aw (aL [k]) (aL []) ys0=ys1)
  (hv:VCx P G 0 f ys1 ⟨[.row cs],[]⟩ λx T'=>x=y∧T'=⟨[.row cs],[]⟩) (hk:K y T):VCx P G ro f ys0 T K:=by
 refine VCx.at1 (Q:=λx o' l'=>x=y∧o'=.row cs∧l'= []) hG hro ho rfl (hc _ _) hx (hv.mono λx T' ⟨h1,h2⟩=>⟨_,_,h2,h1,rfl,rfl⟩) ?_
 rintro x o' l' ⟨rfl,rfl,rfl⟩
 rw [hy,hc,rh ho]
 simpa using hk
theorem Hl {ro:Nat}{T:VT}{t e tx:TypeId}{s x:Operand}{l:List (Nat × TV)}{inf:TypeInfo}{z:Value}{q0:List TV}{qs:List (List TV)}{id off n:Nat}(ht:P.underlying t=some (.slice e))(hi:P.info? e=some inf)(hz:inf.zero=some z)(hzs:z.cells.size=inf.size)(hz1:z.cells.toList.all oneCell'=true)
  (hsl:fD (P.underlying tx)=true) (hs:aA G l s=.vec inf.size [] .full) (hx:aA G l x=.row inf.size id off n) (hr:bL T inf.size (.row inf.size id off n)=some (q0::qs)) (hb:(q0::qs).length*(inf.bytes+1)≤140737488355328):
  bp P G ro T (.call ⟨.builtin .append,#[s,x],#[t,tx]⟩) l (.row inf.size T.objs.length 0 (q0::qs).length) (T.newRow (q0::qs).flatten):=by
 refine .mk ?_
 have h1:aW P (.call ⟨.builtin .append,#[s,x],#[t,tx]⟩) (aA G l)=none:=by simp [aW,cN]
 have h2:aY P T (.call ⟨.builtin .append,#[s,x],#[t,tx]⟩) (aA G l)=none:=by simp [aY,cM,gv]
 have h4:jx P T t tx (.vec inf.size [] .full) (.row inf.size id off n)=none:=by simp [jx,ht]
 have h3:ju P ro T t tx (.vec inf.size [] .full) (.row inf.size id off n)=some (.row inf.size T.objs.length 0 (q0::qs).length,T.newRow (q0::qs).flatten):=by
  unfold ju
  simp only [ht,hi,hz,hr,hzs,decide_true,hz1,hsl,Bool.and_self,cond_true,beq_refl,length_nil,Nat.zero_add,List.flatten_nil,List.nil_append,Nat.ble_eq_true_of_le hb]
 have h5:oY P ro T t tx (.vec inf.size [] .full) (.row inf.size id off n)=none:=rfl
 simp only [dZ,h1,h2,gR,hs,hx,hsl,h4,h5,h3,cond_true]
theorem Hm {ro:Nat}{T:VT}{t e tx:TypeId}{s x:Operand}{l:List (Nat × TV)}{inf:TypeInfo}{z:Value}{id off n:Nat}(ht:P.underlying t=some (.slice e))(hi:P.info? e=some inf)(hz:inf.zero=some z)(hzs:z.cells.size=inf.size)(hz1:z.cells.toList.all oneCell'=true)
  (hsl:fD (P.underlying tx)=true) (hs:aA G l s=.vec inf.size [] .full) (hx:aA G l x=.row inf.size id off n) (hr:bL T inf.size (.row inf.size id off n)=some []):
  bp P G ro T (.call ⟨.builtin .append,#[s,x],#[t,tx]⟩) l (.vec inf.size [] .full) T:=by
 refine .mk ?_
 have h1:aW P (.call ⟨.builtin .append,#[s,x],#[t,tx]⟩) (aA G l)=none:=by simp [aW,cN]
 have h2:aY P T (.call ⟨.builtin .append,#[s,x],#[t,tx]⟩) (aA G l)=none:=by simp [aY,cM,gv]
 have h4:jx P T t tx (.vec inf.size [] .full) (.row inf.size id off n)=none:=by simp [jx,ht]
 have h3:ju P ro T t tx (.vec inf.size [] .full) (.row inf.size id off n)=some (.vec inf.size [] .full,T):=by
  unfold ju
  simp only [ht,hi,hz,hr,hzs,decide_true,hz1,hsl,Bool.and_self,cond_true,beq_refl]
 have h5:oY P ro T t tx (.vec inf.size [] .full) (.row inf.size id off n)=none:=rfl
 simp only [dZ,h1,h2,gR,hs,hx,hsl,h4,h5,h3,cond_true]
theorem E7 (T:VT)(i:Nat):T.objs.length≤(T.kill i).objs.length:=by simp [VT.kill]
end
--bumped 32
end Go.Proofs.YtaijldpbpimdlaaGreatDoor