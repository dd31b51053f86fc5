/-Part 5 of the proof of balanceRulesCard_holds:BpE,SbRep,SbCon ... No condition. -/
import Derived.Sort.Grow
import Derived.Shelf.GgSortFunc.InsertionK
import Derived.Shelf.SlSortCmp.NoneTotal
import Derived.Ground.SlsfProg
import Derived.Test.YtgboehkdijjnkaaGreatDoorProg
import Derived.Test.YtgboehkdijjnkaaGreatDoorBz1
import Derived.Test.YtgboehkdijjnkaaGreatDoorBz2
import Derived.Test.YtgboehkdijjnkaaGreatDoorBz3
import Derived.Test.YtgboehkdijjnkaaGreatDoorBz4
set_option maxRecDepth 100000
namespace Go.Proofs.YtgboehkdijjnkaaGreatDoor
open Go.RowKit
open _root_.Array (length_toList)
open Go.BinOp (eql)
open _root_.Bool (not_eq_true')
open Go.Calls (mono)
open Go.Fence (wide)
open _root_.Function (comp_def)
open Go.IntKind (i64 u32 u64 wrap)
open _root_.List (append_nil eq_nil_of_length_eq_zero ext_getElem? find?_some flatMap_cons flatten flatten_cons getElem?_cons_succ getElem?_cons_zero getElem?_eq_getElem getElem?_eq_none getElem?_map getElem?_take length length_append length_cons length_map length_mergeSort length_nil map_append map_cons map_map map_nil mem_cons mem_cons_of_mem mem_cons_self mem_map mem_map_of_mem mem_of_getElem? mem_singleton nodup_nil not_mem_nil setIfInBounds_toArray set_cons_succ set_cons_zero take_length take_succ_cons take_zero zipWith)
open _root_.Nat (add_mul beq beq_refl le_refl le_trans not_lt_zero zero_add zero_le)
open _root_.Option (getD_some map_some)
open Go.Sort (grow)
open Go.Proofs.Tryz (func100 func117 func118 func142 func143 func83 func92 isAgg0 isAgg29 isAgg3 isAgg4 isAgg5 isAgg53 isAgg72 isAgg9 prog sizeOf0 sizeOf3 sizeOf4 sizeOf5 sizeOf9)
open Go.World (cell?)
section
open Go.RowKit
abbrev Ca:=27
abbrev Cb:=43
abbrev xh:=10
abbrev Cc:=13
abbrev y7:=56
abbrev Cd:=20
abbrev Ce:=18
abbrev El:=60
abbrev Em:=57
abbrev xi:=11
abbrev eS:=77
abbrev jG:=51
abbrev rx:=78
abbrev xj:=14
abbrev xk:=50
abbrev qK:=49
abbrev vF:=96
abbrev Es:=List (Value × TV × Nat)
def eV (i a c:Int):List TV:= [.val (.int .i64 i),.val (.int .u32 a),.val (.int .i64 c)]
def ei (i a c:Int)(u d:Bool):List TV:= [.val (.int .i64 i),.val (.int .u32 a),.val (.int .i64 c),.val (.bool u),.val (.bool d)]
def pO (n:Int):VO:=.cells [.val (.int .i64 n),.map 1]
def pT (n:Int)(lk:Value→Option TV)(es:Es)(ck:Nat):VT:=⟨[pO n,.map kI lk es ck],[]⟩
def y8 (n:Int)(lk:Value→Option TV)(es:Es)(ck:Nat)(x:TV):VT:=⟨[pO n,.map kI lk es ck,.cells [x]],[]⟩
def KH (i j:Nat)(n:Int)(lk:Value→Option TV)(es:Es)(ck:Nat)(ys0:List TV)(x0:TV):aZ:=λro ys T K=>(ro=0∧ys=ys0∧T.objs[i]?=some (.cells [.val (.int .i64 n),.map j])∧T.objs[j]?=some (.map kI lk es ck))∧K x0 T
def HD (n:Int)(lk:Value→Option TV)(es:Es)(ck:Nat)(z:Int)(mb:List TV)(b:Bool):aZ:=KH 0 1 n lk es ck [.ptr 0 0,.val (.int .i64 z)] (.tup [.agg mb,.val (.bool b)])
def Fa (n:Int)(lk:Value→Option TV)(es:Es)(ck:Nat)(x:TV)(z:Int)(g:Nat)(Ch:Int→(Value→Option TV)→Es→Nat→Prop):aZ:=λro ys T K=>(ro=0∧ys= [.ptr 0 0,.val (.int .i64 z),.fn (.func g) [] [.ptr 2 0]]∧T=y8 n lk es ck x)∧∀(e:Int) (lk':Value→Option TV) (es':Es) (ck':Nat),Ch e lk' es' ck'→K (.val (.int .i64 e)) (y8 n lk' es' ck' x)
def Fb (n:Int)(lk:Value→Option TV)(es:Es)(ck:Nat)(h t:Int):aZ:=λro ys T K=>match ys with
 |[.ptr 0 0,.fn (.func g) [] []]=>(ro=0∧(g=jG∨g=rx)∧T=pT n lk es ck)∧K (.val (.int .i64 (bif beq g jG then h else t))) T
 |_=>aG 84 default ys
def l5:List Nat:= [0,1,5,14]
def iT (g:Nat)(h:Int):List TV:= [.ptr 0 0,.fn (.func g) [] [],.val (.int .i64 h),.ptr 2 0]
def jH (n:Int)(lk:Value→Option TV)(es:Es)(ck:Nat)(seen:List Nat):VT:=⟨[pO n,.map kI lk es ck,.iter (.map 1) ck seen ck],[]⟩
def LB (n:Int)(lk:Value→Option TV)(es:Es)(ck:Nat)(g:Nat)(h:Int)(c0:Code):Nat→Option (bH × Code):=di [(0,gX 28 l5 [] (iT g 0) (jH n lk es ck []) (λK=>∀seen:List Nat,K .normal (ax 28 l5 (iT g h)) (jH n lk es ck seen) []),c0)]
noncomputable def KI (eI eA eC:List Nat→Int)(eU eD:List Nat→Bool):iJ:=λ(o:Oper) (_:List TV) (T:VT)=>match o.dst with
 |some 17=>match T.objs[2]? with
  |some (VO.iter _ _ seen _)=>some (.tup [.val (.int .i64 (eI seen)),.agg (ei (eI seen) (eA seen) (eC seen) (eU seen) (eD seen))],some T)
  |_=>none
 |_=>none
def HE (T0:VT)(ids:List (List TV)):aZ:=λro ys T K=>(ro=0∧ys= [.fn (.func vF) [] [.ptr 2 0]]∧T=T0)∧K (.vec 1 ids .none) T
def Cf:List Nat:= [0,1,5,17,18,19]
def xl (ids L:List (List TV))(j:Int):List TV:= [.ptr 0 0,.fn (.func xk) [] [],.vec 3 L (.tail 0 L.length),.vec 1 ids .none,.val (.int .i64 ids.length),.val (.int .i64 j)]
def xm (n:Int)(lk:Value→Option TV)(es:Es)(ck k:Nat):VT:=⟨[pO n,.map kI lk es ck,.cells [.map 1]],[(k,3,true)]⟩
def KJ (n:Int)(lk:Value→Option TV)(es:Es)(ck:Nat)(ids S:List (List TV))(c0:Code):Nat→Option (bH × Code):=di [(0,gX 39 Cf [(5,3)] (xl ids [] 0) (xm n lk es ck 0) λK=>K .normal (ax 39 Cf (xl ids S ids.length)) (xm n lk es ck S.length) [],c0)]
def KK (n:Int)(lk:Value→Option TV)(es:Es)(ck:Nat)(S:List (List TV)):aZ:=λro ys T K=>(ro=0∧ys= [.ptr 0 0,.fn (.func xk) [] []]∧T=pT n lk es ck)∧K (.vec 3 S .none) T
theorem JQ (n:Int)(lk:Value→Option TV)(es:Es)(ck:Nat)(i a c i' a' c':Int)(u' d' b:Bool)(Q:TV→VT→Prop):aK prog ae c9 (Hl [(36,.tup [.agg (ei i' a' c' u' d'),.val (.bool b)])]) 300 bq 0 Ca [.ptr 0 0,.agg (eV i a c)] (pT n lk es ck) Q=
 (bif decide (i<(0:Int))
 then Q hJ (tR n (.map 1) (.map ⟨false,[(.int .i64)]⟩ (lk) (es) (ck)) i a c)
 else (bif decide (i>(255:Int))
 then Q hJ (tR n (.map 1) (.map ⟨false,[(.int .i64)]⟩ (lk) (es) (ck)) i a c)
 else (bif bE eql (aj (Value.int u32 a) (Value.int u32 (0:Int)))
 then Q hJ (tR n (.map 1) (.map ⟨false,[(.int .i64)]⟩ (lk) (es) (ck)) i a c)
 else (bif decide (c≥(0:Int))
 then (bif !decide (c≤(100:Int))
 then Q hJ (tR n (.map 1) (.map ⟨false,[(.int .i64)]⟩ (lk) (es) (ck)) i a c)
 else (Aq prog (tR n (.map 1) (.map ⟨false,[(.int .i64)]⟩ (lk) (es) (ck)) i a c) 108 (.map 1) (ar i) true (wZ i' a' c' u' d' b)∧
 (bif b
 then Q (.val (.int .i64 13)) (AS n (.map 1) (.map ⟨false,[(.int .i64)]⟩ (lk) (es) (ck)) i a c i' a' c' u' d')
 else (bif decide ((↑(length es):Int)≥(16:Int))
 then Q (.val (.int .i64 6)) (AS n (.map 1) (.map ⟨false,[(.int .i64)]⟩ (lk) (es) (ck)) i a c i' a' c' u' d')
 else Q bB (AS n (.map 1) (.map ⟨false,[(.int .i64)]⟩ (λkk=>(bif aj (Value.int i64 i) kk then (.some (.agg [(.val (.int .i64 (i))),(.val (.int .u32 (a))),(.val (.int .i64 (c))),(.val (.bool false)),(.val (.bool false))])) else (lk kk))) (bt (.int .i64 (i)) (.agg [(.val (.int .i64 (i))),(.val (.int .u32 (a))),(.val (.int .i64 (c))),(.val (.bool false)),(.val (.bool false))]) (ck) (es)) (match lk (Value.int i64 i) with
|some val=>ck
|none=>ck+(1:Nat))) i a c i' a' c' u' d')))))
 else Q hJ (tR n (.map 1) (.map ⟨false,[(.int .i64)]⟩ (lk) (es) (ck)) i a c))))):=by kernel_rfl
theorem JR (n:Int)(lk:Value→Option TV)(es:Es)(ck:Nat)(z i' a' c':Int)(u' d' b:Bool)(Q:TV→VT→Prop):aK prog ae c9 (bw [(18,.tup [.agg (ei i' a' c' u' d'),.val (.bool b)],some λT=>T)]) 300 bq 0 Cb [.ptr 0 0,.val (.int .i64 z)] (pT n lk es ck) Q=
 (aN prog (λ_=>.none) 0 (Ht n (.map 1) (.map ⟨false,[(.int .i64)]⟩ (lk) (es) (ck))) (.lookup 108 (.tmp 16) (.tmp 17) true) [(16,(.map 1)),(17,(ar z))] (wZ i' a' c' u' d' b) (Ht n (.map 1) (.map ⟨false,[(.int .i64)]⟩ (lk) (es) (ck)))∧
 Q (wZ i' a' c' u' d' b) ⟨[(dT n (.map 1)),(.map ⟨false,[(.int .i64)]⟩ (lk) (es) (ck)),(mm i' a' c' u' d'),(mm i' a' c' u' d')],[]⟩):=by kernel_rfl
theorem JS (n:Int)(lk:Value→Option TV)(es:Es)(ck:Nat)(q:Bool)(z i' a' c':Int)(u' d' b:Bool)(Q:TV→VT→Prop):aK prog ae c9 (bw [(19,.tup [.agg (ei i' a' c' u' d'),.val (.bool b)],some λT=>T)]) 300 bq 0 y7 [.ptr 0 0,.val (.int .i64 z),.fn (.func El) [] [.ptr 2 0]] (y8 n lk es ck (eF q)) Q=
 (aN prog (λ_=>.none) 0 (mn n (.map 1) (.map ⟨false,[(.int .i64)]⟩ (lk) (es) (ck)) q) (.lookup 108 (.tmp 17) (.tmp 18) true) [(17,(.map 1)),(18,(ar z))] (wZ i' a' c' u' d' b) (mn n (.map 1) (.map ⟨false,[(.int .i64)]⟩ (lk) (es) (ck)) q)∧
 (bif !b
 then Q Eh (AR n (.map 1) (.map ⟨false,[(.int .i64)]⟩ (lk) (es) (ck)) q i' a' c' u' d')
 else Q bB (AR n (.map 1) (.map ⟨false,[(.int .i64)]⟩ (λkk=>(bif aj (Value.int i64 z) kk then (.some (.agg [(.val (.int .i64 (i'))),(.val (.int .u32 (a'))),(.val (.int .i64 (c'))),(.val (.bool (q))),(.val (.bool (d')))])) else (lk kk))) (bt (.int .i64 (z)) (.agg [(.val (.int .i64 (i'))),(.val (.int .u32 (a'))),(.val (.int .i64 (c'))),(.val (.bool (q))),(.val (.bool (d')))]) (ck) (es)) (match lk (Value.int i64 z) with
|some val=>ck
|none=>ck+(1:Nat))) q i' a' c' q d'))):=by kernel_rfl
theorem JT (n:Int)(lk:Value→Option TV)(es:Es)(ck:Nat)(q:Bool)(z i' a' c':Int)(u' d' b:Bool)(Q:TV→VT→Prop):aK prog ae c9 (bw [(19,.tup [.agg (ei i' a' c' u' d'),.val (.bool b)],some λT=>T)]) 300 bq 0 y7 [.ptr 0 0,.val (.int .i64 z),.fn (.func Em) [] [.ptr 2 0]] (y8 n lk es ck (eF q)) Q=
 (aN prog (λ_=>.none) 0 (mn n (.map 1) (.map ⟨false,[(.int .i64)]⟩ (lk) (es) (ck)) q) (.lookup 108 (.tmp 17) (.tmp 18) true) [(17,(.map 1)),(18,(ar z))] (wZ i' a' c' u' d' b) (mn n (.map 1) (.map ⟨false,[(.int .i64)]⟩ (lk) (es) (ck)) q)∧
 (bif !b
 then Q Eh (AR n (.map 1) (.map ⟨false,[(.int .i64)]⟩ (lk) (es) (ck)) q i' a' c' u' d')
 else Q bB (AR n (.map 1) (.map ⟨false,[(.int .i64)]⟩ (λkk=>(bif aj (Value.int i64 z) kk then (.some (.agg [(.val (.int .i64 (i'))),(.val (.int .u32 (a'))),(.val (.int .i64 (c'))),(.val (.bool (u'))),(.val (.bool (q)))])) else (lk kk))) (bt (.int .i64 (z)) (.agg [(.val (.int .i64 (i'))),(.val (.int .u32 (a'))),(.val (.int .i64 (c'))),(.val (.bool (u'))),(.val (.bool (q)))]) (ck) (es)) (match lk (Value.int i64 z) with
|some val=>ck
|none=>ck+(1:Nat))) q i' a' c' u' q))):=by kernel_rfl
theorem JU (n:Int)(lk:Value→Option TV)(es:Es)(ck:Nat)(q:Bool)(z:Int)(Ch:Int→(Value→Option TV)→Es→Nat→Prop)(Q:TV→VT→Prop):aK prog ae (aE [(y7,Fa n lk es ck (eF q) z El Ch)]) bv 300 bq 0 Cd [.ptr 0 0,.val (.int .i64 z),.val (.bool q)] (pT n lk es ck) Q=
 (((@Eq (Nat) 0 0)∧
 ((@Eq (List TV) (AQ z (.fn (.func 60) [] [(.ptr 2 0)])) (AQ z (.fn (.func 60) [] [(.ptr 2 0)])))∧
 (@Eq (VT) (mn n (.map 1) (.map ⟨false,[(.int .i64)]⟩ (lk) (es) (ck)) q) (mn n (.map 1) (.map ⟨false,[(.int .i64)]⟩ (lk) (es) (ck)) q))))∧
 (∀e:Int,(∀lk':Value→Option TV,(∀es':Es,(∀ck':Nat,(Ch (e) (lk') (es') (ck')→Q (ar e) (mn n (.map 1) (.map ⟨false,[(.int .i64)]⟩ (lk') (es') (ck')) q))))))):=by kernel_rfl
theorem JV (n:Int)(lk:Value→Option TV)(es:Es)(ck:Nat)(q:Bool)(z:Int)(Ch:Int→(Value→Option TV)→Es→Nat→Prop)(Q:TV→VT→Prop):aK prog ae (aE [(y7,Fa n lk es ck (eF q) z Em Ch)]) bv 300 bq 0 Ce [.ptr 0 0,.val (.int .i64 z),.val (.bool q)] (pT n lk es ck) Q=
 (((@Eq (Nat) 0 0)∧
 ((@Eq (List TV) (AQ z (.fn (.func 57) [] [(.ptr 2 0)])) (AQ z (.fn (.func 57) [] [(.ptr 2 0)])))∧
 (@Eq (VT) (mn n (.map 1) (.map ⟨false,[(.int .i64)]⟩ (lk) (es) (ck)) q) (mn n (.map 1) (.map ⟨false,[(.int .i64)]⟩ (lk) (es) (ck)) q))))∧
 (∀e:Int,(∀lk':Value→Option TV,(∀es':Es,(∀ck':Nat,(Ch (e) (lk') (es') (ck')→Q (ar e) (mn n (.map 1) (.map ⟨false,[(.int .i64)]⟩ (lk') (es') (ck')) q))))))):=by kernel_rfl
theorem JW (n:Int)(lk:Value→Option TV)(es:Es)(ck:Nat)(z i a c:Int)(u d b:Bool)(Q:TV→VT→Prop):aK prog ae (aE [(Cb,HD n lk es ck z (ei i a c u d) b)]) bv 300 bq 0 xh [.ptr 0 0,.val (.int .i64 z)] (pT n lk es ck) Q=
 (((@Eq (Nat) 0 0)∧
 ((@Eq (List TV) (o7 z) (o7 z))∧
 ((@Eq (Option VO) (.some (dT n (.map 1))) (.some (dT n (.map 1))))∧
 (@Eq (Option VO) (.some (.map ⟨false,[(.int .i64)]⟩ (lk) (es) (ck))) (.some (.map ⟨false,[(.int .i64)]⟩ (lk) (es) (ck)))))))∧
 Q (eF u) ⟨[(dT n (.map 1)),(.map ⟨false,[(.int .i64)]⟩ (lk) (es) (ck)),(mm i a c u d)],[]⟩):=by kernel_rfl
theorem JX (n:Int)(lk:Value→Option TV)(es:Es)(ck:Nat)(z i a c:Int)(u d b:Bool)(Q:TV→VT→Prop):aK prog ae (aE [(Cb,HD n lk es ck z (ei i a c u d) b)]) bv 300 bq 0 Cc [.ptr 0 0,.val (.int .i64 z)] (pT n lk es ck) Q=
 (((@Eq (Nat) 0 0)∧
 ((@Eq (List TV) (o7 z) (o7 z))∧
 ((@Eq (Option VO) (.some (dT n (.map 1))) (.some (dT n (.map 1))))∧
 (@Eq (Option VO) (.some (.map ⟨false,[(.int .i64)]⟩ (lk) (es) (ck))) (.some (.map ⟨false,[(.int .i64)]⟩ (lk) (es) (ck)))))))∧
 Q (Ei i a c b) (AS n (.map 1) (.map ⟨false,[(.int .i64)]⟩ (lk) (es) (ck)) i a c i a c u d)):=by kernel_rfl
theorem JY (n:Int)(lk:Value→Option TV)(es:Es)(ck:Nat)(h t:Int)(Q:TV→VT→Prop):aK prog ae (aE [(eS,Fb n lk es ck h t)]) (bw [(999998,.dead,none)]) 300 bq 0 xi [.ptr 0 0] (pT n lk es ck) Q=
 (((@Eq (Nat) 0 0)∧
 (Or (@Eq (FuncId) 51 51) (@Eq (FuncId) 51 78)∧
 (@Eq (VT) (ia n (.map 1) (.map ⟨false,[(.int .i64)]⟩ (lk) (es) (ck))) (ia n (.map 1) (.map ⟨false,[(.int .i64)]⟩ (lk) (es) (ck))))))∧
 (((@Eq (Option TV) (.some (ar n)) (.some (ar n)))∧
 True)∧
 (((@Eq (Nat) 0 0)∧
 (Or (@Eq (FuncId) 78 51) (@Eq (FuncId) 78 78)∧
 (@Eq (VT) (ia n (.map 1) (.map ⟨false,[(.int .i64)]⟩ (lk) (es) (ck))) (ia n (.map 1) (.map ⟨false,[(.int .i64)]⟩ (lk) (es) (ck))))))∧
 (((@Eq (Option TV) (.some (ar n)) (.some (ar n)))∧
 True)∧
 (bif decide ((bif beq (51:Nat) jG then h else t)<(0:Int))
 then Q bX (ia n (.map 1) (.map ⟨false,[(.int .i64)]⟩ (lk) (es) (ck)))
 else (bif decide ((bif beq (51:Nat) jG then h else t)>(1000000:Int))
 then Q bX (ia n (.map 1) (.map ⟨false,[(.int .i64)]⟩ (lk) (es) (ck)))
 else (bif decide ((bif beq (78:Nat) jG then h else t)<(0:Int))
 then Q bX (ia n (.map 1) (.map ⟨false,[(.int .i64)]⟩ (lk) (es) (ck)))
 else (bif decide ((bif beq (78:Nat) jG then h else t)>(1000000:Int))
 then Q bX (ia n (.map 1) (.map ⟨false,[(.int .i64)]⟩ (lk) (es) (ck)))
 else (bif decide (n<(0:Int))
 then Q bX (ia n (.map 1) (.map ⟨false,[(.int .i64)]⟩ (lk) (es) (ck)))
 else (bif decide (n>(1000000:Int))
 then Q bX (ia n (.map 1) (.map ⟨false,[(.int .i64)]⟩ (lk) (es) (ck)))
 else (bif decide ((bif beq (51:Nat) jG then h else t)>(0:Int))
 then Q (eF (decide (wrap i64 ((100:Int)*bif beq (51:Nat) jG then h else t)≥wrap i64 (n*bif beq (78:Nat) jG then h else t)))) (ia n (.map 1) (.map ⟨false,[(.int .i64)]⟩ (lk) (es) (ck)))
 else Q bX (ia n (.map 1) (.map ⟨false,[(.int .i64)]⟩ (lk) (es) (ck)))))))))))))):=by kernel_rfl
theorem JZ (n:Int)(lk:Value→Option TV)(es:Es)(ck:Nat)(g:Nat)(h:Int)(Q:TV→VT→Prop):aK prog ae c9 bv 300 (LB n lk es ck g h (av prog eS 0)) 0 eS [.ptr 0 0,.fn (.func g) [] []] (pT n lk es ck) Q=
 ((av prog eS (0:Nat)=av prog eS (0:Nat))∧
 (((@Eq (Option Nat) .none .none)∧
 ((@Eq (Nat) 0 0)∧
 ((@Eq (List Nat) [] [])∧
 (True  ∧
 ((@Eq (VT) (nE n (.map 1) (.map ⟨false,[(.int .i64)]⟩ (lk) (es) (ck)) (.iter (.map 1) (ck) [] (ck))) (nE n (.map 1) (.map ⟨false,[(.int .i64)]⟩ (lk) (es) (ck)) (.iter (.map 1) (ck) [] (ck))))∧
 ((@Eq (Bool) true true)∧
 (@Eq (List TV) [dP,(.fn (.func (g)) [] []),bB,jV] [dP,(.fn (.func (g)) [] []),bB,jV])))))))∧
 (∀seen:List Nat,Q (ar h) (nE n (.map 1) (.map ⟨false,[(.int .i64)]⟩ (lk) (es) (ck)) (.iter (.map 1) (ck) (seen) (ck)))))):=by kernel_rfl
theorem HF (n:Int)(lk:Value→Option TV)(es:Es)(ck:Nat)(h:Int)(seen:List Nat)(eI eA eC:List Nat→Int)(eU eD:List Nat→Bool)(Q:Exit→List TV→VT→List Nat→Nat→Prop):vx prog ae c9 (KI eI eA eC eU eD) 300 (tT 1000004 (qJ 14 15 16,dA prog eS 4) 1000999 (qJ 14 15 16,dA prog eS 4)) none 0 (dh prog eS 0) (ax 28 l5 (iT jG h)) (jH n lk es ck seen) [] (dl l5 Q)=
 ((dA prog eS (4:Nat)=dA prog eS (4:Nat))∧
 (((@Eq (Bool) true true)∧
 ((@Eq (Bool) (fT seen ck es) false)∧
 (@Eq (Bool) true true)))∧
 ((xg (ck) (seen) (es)→Q (.exit 0) (tQ (.fn (.func 51) [] []) h) (nE n (.map 1) (.map ⟨false,[(.int .i64)]⟩ (lk) (es) (ck)) (.iter (.map 1) (ck) (seen) (ck))) [] 28)∧
 (∀k:Value,(∀v:TV,(∀s:Nat,(tU (k) (v) (s) (ck) (seen) (es)→(aN prog (λ_=>.none) 0 (nE n (.map 1) (.map ⟨false,[(.int .i64)]⟩ (lk) (es) (ck)) (.iter (.map 1) (ck) (seen++ [s]) (ck))) (.entry (.tmp 14)) [(14,jV)] (.tup [(ar (eI (seen++ [s]))),(AP (eI (seen++ [s])) (eA (seen++ [s])) (eC (seen++ [s])) (eU (seen++ [s])) (eD (seen++ [s])))]) (nE n (.map 1) (.map ⟨false,[(.int .i64)]⟩ (lk) (es) (ck)) (.iter (.map 1) (ck) (seen++ [s]) (ck)))∧
 (bif eU (seen++ [s])
 then (bif !eD (seen++ [s])
 then Q .normal (tQ (.fn (.func 51) [] []) (wrap i64 (h+eC (seen++ [s])))) (AO n (.map 1) (.map ⟨false,[(.int .i64)]⟩ (lk) (es) (ck)) (.iter (.map 1) (ck) (seen++ [s]) (ck)) (eI (seen++ [s])) (eA (seen++ [s])) (eC (seen++ [s])) (eU (seen++ [s])) (eD (seen++ [s])) (eI (seen++ [s])) (eA (seen++ [s])) (eC (seen++ [s])) (eU (seen++ [s])) (eD (seen++ [s]))) [] 28
 else Q .normal (tQ (.fn (.func 51) [] []) h) (AO n (.map 1) (.map ⟨false,[(.int .i64)]⟩ (lk) (es) (ck)) (.iter (.map 1) (ck) (seen++ [s]) (ck)) (eI (seen++ [s])) (eA (seen++ [s])) (eC (seen++ [s])) (eU (seen++ [s])) (eD (seen++ [s])) (eI (seen++ [s])) (eA (seen++ [s])) (eC (seen++ [s])) (eU (seen++ [s])) (eD (seen++ [s]))) [] 28)
 else Q .normal (tQ (.fn (.func 51) [] []) h) (AO n (.map 1) (.map ⟨false,[(.int .i64)]⟩ (lk) (es) (ck)) (.iter (.map 1) (ck) (seen++ [s]) (ck)) (eI (seen++ [s])) (eA (seen++ [s])) (eC (seen++ [s])) (eU (seen++ [s])) (eD (seen++ [s])) (eI (seen++ [s])) (eA (seen++ [s])) (eC (seen++ [s])) (eU (seen++ [s])) (eD (seen++ [s]))) [] 28))))))))):=by kernel_rfl
theorem HG (n:Int)(lk:Value→Option TV)(es:Es)(ck:Nat)(h:Int)(seen:List Nat)(eI eA eC:List Nat→Int)(eU eD:List Nat→Bool)(Q:Exit→List TV→VT→List Nat→Nat→Prop):vx prog ae c9 (KI eI eA eC eU eD) 300 (tT 1000004 (qJ 14 15 16,dA prog eS 4) 1000999 (qJ 14 15 16,dA prog eS 4)) none 0 (dh prog eS 0) (ax 28 l5 (iT rx h)) (jH n lk es ck seen) [] (dl l5 Q)=
 ((dA prog eS (4:Nat)=dA prog eS (4:Nat))∧
 (((@Eq (Bool) true true)∧
 ((@Eq (Bool) (fT seen ck es) false)∧
 (@Eq (Bool) true true)))∧
 ((xg (ck) (seen) (es)→Q (.exit 0) (tQ (.fn (.func 78) [] []) h) (nE n (.map 1) (.map ⟨false,[(.int .i64)]⟩ (lk) (es) (ck)) (.iter (.map 1) (ck) (seen) (ck))) [] 28)∧
 (∀k:Value,(∀v:TV,(∀s:Nat,(tU (k) (v) (s) (ck) (seen) (es)→(aN prog (λ_=>.none) 0 (nE n (.map 1) (.map ⟨false,[(.int .i64)]⟩ (lk) (es) (ck)) (.iter (.map 1) (ck) (seen++ [s]) (ck))) (.entry (.tmp 14)) [(14,jV)] (.tup [(ar (eI (seen++ [s]))),(AP (eI (seen++ [s])) (eA (seen++ [s])) (eC (seen++ [s])) (eU (seen++ [s])) (eD (seen++ [s])))]) (nE n (.map 1) (.map ⟨false,[(.int .i64)]⟩ (lk) (es) (ck)) (.iter (.map 1) (ck) (seen++ [s]) (ck)))∧
 Q .normal (tQ (.fn (.func 78) [] []) (wrap i64 (h+eC (seen++ [s])))) (AO n (.map 1) (.map ⟨false,[(.int .i64)]⟩ (lk) (es) (ck)) (.iter (.map 1) (ck) (seen++ [s]) (ck)) (eI (seen++ [s])) (eA (seen++ [s])) (eC (seen++ [s])) (eU (seen++ [s])) (eD (seen++ [s])) (eI (seen++ [s])) (eA (seen++ [s])) (eC (seen++ [s])) (eU (seen++ [s])) (eD (seen++ [s]))) [] 28)))))))):=by kernel_rfl
theorem J0 (n:Int)(lk:Value→Option TV)(es:Es)(ck:Nat)(ids S:List (List TV))(Q:TV→VT→Prop):aK prog ae (aE [(uS,HE ⟨[pO n,.map kI lk es ck,.cells [.map 1]],[]⟩ ids)]) bv 300 (KJ n lk es ck ids S (av prog qK 0)) 0 qK [.ptr 0 0,.fn (.func xk) [] []] (pT n lk es ck) Q=
 (((@Eq (Nat) 0 0)∧
 ((@Eq (List TV) [(.fn (.func 96) [] [jV])] [(.fn (.func 96) [] [jV])])∧
 (@Eq (VT) ⟨[(dT n (.map 1)),(.map ⟨false,[(.int .i64)]⟩ (lk) (es) (ck)),(.cells [(.map 1)])],[]⟩ ⟨[(dT n (.map 1)),(.map ⟨false,[(.int .i64)]⟩ (lk) (es) (ck)),(.cells [(.map 1)])],[]⟩)))∧
 ((av prog qK (0:Nat)=av prog qK (0:Nat))∧
 (((@Eq (Option Nat) .none .none)∧
 ((@Eq (Nat) 0 0)∧
 ((@Eq (List Nat) [] [])∧
 (((@Eq (Option TV) (.some dU) (.some dU))∧
 True)∧
 ((@Eq (VT) (tP n (.map 1) (.map ⟨false,[(.int .i64)]⟩ (lk) (es) (ck)) (.map 1) [(0,(3,true))]) (tP n (.map 1) (.map ⟨false,[(.int .i64)]⟩ (lk) (es) (ck)) (.map 1) [(0,(3,true))]))∧
 ((@Eq (Bool) true true)∧
 (@Eq (List TV) [dP,(.fn (.func 50) [] []),jW,(eG ids),(ar (↑(length ids):Int)),bB] [dP,(.fn (.func 50) [] []),jW,(eG ids),(ar (↑(length ids):Int)),bB])))))))∧
 Q (gg S (length S)) (tP n (.map 1) (.map ⟨false,[(.int .i64)]⟩ (lk) (es) (ck)) (.map 1) [((length S),(3,true))])))):=by kernel_rfl
abbrev Eo (L:List (List TV))(ids:List (List TV))(j:Nat):List TV:=(Eg (.fn (.func 50) [] []) L (length L) ids (↑(length ids):Int) (wrap i64 ((↑j:Int)+(1:Int))))
theorem Cg (n:Int)(lk:Value→Option TV)(es:Es)(ck:Nat)(ids L:List (List TV))(z i a c:Int)(u d:Bool)(j:Nat)(Q:Exit→List TV→VT→List Nat→Nat→Prop):vx prog ae c9 (bw [(999998,.dead,none),(21,.elt [.val (.int .i64 z)],none),(28,.agg (ei i a c u d),some λT=>T),(36,.vec 3 (L++ [eV i a c]) (.tail 0 (L.length+1)),some λT=>{T with tails:= [(L.length+1,3,true)]})]) 300 bq none 0 (dh prog qK 0) (ax 39 Cf (xl ids L j)) (xm n lk es ck L.length) [] (dl Cf Q)=
 (bif decide ((↑j:Int)<(↑(length ids):Int))
 then (aI prog (λ_=>.none) (.indexAddr 25 (.tmp 17) (.tmp 19)) [(17,(eG ids)),(19,(ar (↑j:Int)))] (rt z)∧
 (aN prog (λ_=>.none) 0 (tP n (.map 1) (.map ⟨false,[(.int .i64)]⟩ (lk) (es) (ck)) (.map 1) [((length L),(3,true))]) (.lookup 108 (.tmp 26) (.tmp 27) false) [(26,(.map 1)),(27,(ar z))] (AP i a c u d) (tP n (.map 1) (.map ⟨false,[(.int .i64)]⟩ (lk) (es) (ck)) (.map 1) [((length L),(3,true))])∧
 (bif u
 then (bif !d
 then (bif decide (c>(0:Int))
 then (aN prog (λ_=>.none) 0 (tO n (.map 1) (.map ⟨false,[(.int .i64)]⟩ (lk) (es) (ck)) (.map 1) i a c u d i a c u d i a c u d [((length L),(3,true))]) (.call ⟨(.builtin .append),#[(.tmp 32),(.tmp 35)],#[22,22]⟩) [(32,(gg L (length L))),(35,(.vec 3 [[(.val (.int .i64 (i))),(.val (.int .u32 (a))),(.val (.int .i64 (c)))]] .full))] (gg (L++ [eV i a c]) (length L+(1:Nat))) (tO n (.map 1) (.map ⟨false,[(.int .i64)]⟩ (lk) (es) (ck)) (.map 1) i a c u d i a c u d i a c u d [((length L+(1:Nat)),(3,true))])∧
 Q .normal (Eg (.fn (.func 50) [] []) (L++ [eV i a c]) (length L+(1:Nat)) ids (↑(length ids):Int) (wrap i64 ((↑j:Int)+(1:Int)))) (tO n (.map 1) (.map ⟨false,[(.int .i64)]⟩ (lk) (es) (ck)) (.map 1) i a c u d i a c u d i a c u d [((length L+(1:Nat)),(3,true))]) [] 39)
 else Q .normal (Eo L ids j) (tO n (.map 1) (.map ⟨false,[(.int .i64)]⟩ (lk) (es) (ck)) (.map 1) i a c u d i a c u d i a c u d [((length L),(3,true))]) [] 39)
 else Q .normal (Eo L ids j) (tO n (.map 1) (.map ⟨false,[(.int .i64)]⟩ (lk) (es) (ck)) (.map 1) i a c u d i a c u d i a c u d [((length L),(3,true))]) [] 39)
 else Q .normal (Eo L ids j) (tO n (.map 1) (.map ⟨false,[(.int .i64)]⟩ (lk) (es) (ck)) (.map 1) i a c u d i a c u d i a c u d [((length L),(3,true))]) [] 39)))
 else Q (.exit 0) (Eg (.fn (.func 50) [] []) L (length L) ids (↑(length ids):Int) (↑j:Int)) (tP n (.map 1) (.map ⟨false,[(.int .i64)]⟩ (lk) (es) (ck)) (.map 1) [((length L),(3,true))]) [] 39):=by kernel_rfl
theorem J1 (n:Int)(lk:Value→Option TV)(es:Es)(ck:Nat)(S:List (List TV))(Q:TV→VT→Prop):aK prog ae (aE [(qK,KK n lk es ck S)]) bv 300 bq 0 xj [.ptr 0 0] (pT n lk es ck) Q=
 (((@Eq (Nat) 0 0)∧
 ((@Eq (List TV) [dP,(.fn (.func 50) [] [])] [dP,(.fn (.func 50) [] [])])∧
 (@Eq (VT) (ia n (.map 1) (.map ⟨false,[(.int .i64)]⟩ (lk) (es) (ck))) (ia n (.map 1) (.map ⟨false,[(.int .i64)]⟩ (lk) (es) (ck))))))∧
 Q (dE S) (ia n (.map 1) (.map ⟨false,[(.int .i64)]⟩ (lk) (es) (ck)))):=by kernel_rfl
end
section
open Go.RowKit Go.Maps Go.Sort
abbrev cN:=Int→Option (Int × Int)
def Ci (r:Int × Int):TV:=.agg (Hu r.1 r.2)
structure RepsOk (lk:Value→Option TV) (es:List (Value × TV × Nat)) (R:cN):Prop where
 get:∀z,lk (aB z)=(R z).map Ci
 sh:∀k v,lk k=some v→∃r,v=Ci r
 ents:∀e∈es,∃r,e.2.1=Ci r
theorem RepsOk.ren {lk:Value→Option TV}{es:List (Value × TV × Nat)}{R:cN}(h:RepsOk lk es R)(ck:Nat)(f g:Nat→Option Nat):VO.ren f g (.map kI lk es ck)=.map kI lk es ck:=by
 have h1:(λk=>(lk k).map (TV.ren f g))=lk:=by
  funext k
  cases hk:lk k with
  |none=>rfl
  |some v=>
   obtain ⟨r,rfl⟩:=h.sh k v hk
   rfl
 have h2:es.map (λe=>(e.1,e.2.1.ren f g,e.2.2))=es:=by
  refine (List.map_congr_left λe he=> ?_).trans (List.map_id es)
  obtain ⟨r,hr⟩:=h.ents e he
  obtain ⟨k,v,b⟩:=e
  simp only at hr
  subst hr
  rfl
 simp only [VO.ren,h1,h2]
def jY (i:Int)(r:Int × Int)(R:cN):cN:=λz=>bif i==z then some r else R z
theorem xn {k:Value}{v:TV}{ck:Nat}:∀{es:List (Value × TV × Nat)} {e},e∈bt k v ck es→e.2.1=v∨e∈es
 |[],e,h=>by rw [mem_singleton.1 h];exact .inl rfl
 |x::es,e,h=>by
  unfold bt at h
  cases hc:aj k x.1
  ·rw [hc,cond_false] at h
   rcases mem_cons.1 h with rfl | h
   ·exact .inr mem_cons_self
   ·rcases xn h with h | h
    ·exact .inl h
    ·exact .inr (mem_cons_of_mem _ h)
  ·rw [hc,cond_true] at h
   rcases mem_cons.1 h with rfl | h
   ·exact .inl rfl
   ·exact .inr (mem_cons_of_mem _ h)
theorem RepsOk.put {lk:Value→Option TV}{es:List (Value × TV × Nat)}{R:cN}(h:RepsOk lk es R)(i:Int)(r:Int × Int)(ck:Nat):
  RepsOk (λk=>bif aj (aB i) k then some (Ci r) else lk k) (bt (aB i) (Ci r) ck es) (jY i r R) where
 get:=λz=>by
  simp only [Lk,h.get,jY]
  cases i==z<;>rfl
 sh:=λk v hv=>by
  cases hc:aj (aB i) k
  ·rw [hc,cond_false] at hv;exact h.sh k v hv
  ·rw [hc,cond_true] at hv;exact ⟨r,(Option.some.inj hv).symm⟩
 ents:=λe he=>by
  rcases xn he with he | he
  ·exact ⟨r,he⟩
  ·exact h.ents e he
theorem Ep {T:VT}{lk:Value→Option TV}{es:List (Value × TV × Nat)}{ck id:Nat}{z:Int}(hid:T.objs[id]?=some (.map kI lk es ck))(ok:Bool):cQ prog T 124 (.map id) (.val (aB z)) ok=some (cf ok (lk (aB z)) (.agg #[.int .i64 0,.int .i64 0])):=by
 have h:∀o:Option VO,o=some (.map kI lk es ck)→(match prog.underlying 124,bM (.val (aB z)) with
   |some (.map kt et),some kv=>match bY prog kt,prog.info? et with
    |some sh,some i=>match i.zero with
     |some zz=>bif sh.fits kv then (match o with
       |some (.map sh' look _ _)=>bif fG sh sh' then some (cf ok (look kv) zz) else none
       |_=>none) else none
     |none=>none
    |_,_=>none
   |_,_=>none)=some (cf ok (lk (aB z)) (.agg #[.int .i64 0,.int .i64 0])):=by
  rintro _ rfl
  kernel_rfl
 exact h _ hid
def lc (R:cN)(i n:Int):Int:=match R i with
 |none=>0
 |some r=>bif decide (n≥r.2) then 0 else r.1
theorem HH {lk lk2:Value→Option TV}{es es2:List (Value × TV × Nat)}{ck ck2:Nat}{S:List aO}{st:List Nat}{R:cN}(h:SitesOk lk es ck S st)(h2:RepsOk lk2 es2 R)(i n:Int):
  VCx prog ae 0 E6 [.ptr 0 0,.val (.int .i64 i),.val (.int .i64 n)] (sT lk lk2 es es2 ck ck2) λx T'=>x=.val (.int .i64 (lc R i n))∧T'=sT lk lk2 es es2 ck ck2:=by
 have e1:=h.ren (ai 3) (ai 0)
 have e2:=h2.ren ck2 (ai 3) (ai 0)
 unfold kI at e1 e2
 have hl:=h2.get i
 have hlk:=λo=>Ep (T:=sT lk lk2 es es2 ck ck2) (id:=2) (z:=i) (lk:=lk2) (es:=es2) (ck:=ck2) rfl o
 unfold sT kI at hlk
 cases hR:R i with
 |none=>
  rw [hR] at hl
  refine VCx.keepQ 3 0 (le_refl _) (le_refl _) (an ah ag aw ak (E8 lk lk2 es es2 ck ck2 i n 0 0 false _) ?_)
  refine ⟨ed ((hlk true).trans (by rw [hl];rfl)),aL rfl ⟨?_,?_⟩⟩
  ·simp only [TV.ren,lc,hR]
  ·simp only [VT.keep,take_succ_cons,take_zero,map_cons,map_nil,e1,e2,sT,kI]
   rfl
 |some r=>
  rw [hR] at hl
  refine VCx.keepQ 3 0 (le_refl _) (le_refl _) (an ah ag aw ak (E8 lk lk2 es es2 ck ck2 i n r.1 r.2 true _) ?_)
  refine ⟨ed ((hlk true).trans (by rw [hl];rfl)),az rfl ?_⟩
  cases hc:decide (n≥r.2)
  ·refine az rfl ⟨?_,?_⟩
   ·simp only [TV.ren,lc,hR,hc,cond_false]
   ·simp only [VT.keep,take_succ_cons,take_zero,map_cons,map_nil,e1,e2,sT,kI]
    rfl
  ·refine aL rfl ⟨?_,?_⟩
   ·simp only [TV.ren,lc,hR,hc,cond_true]
   ·simp only [VT.keep,take_succ_cons,take_zero,map_cons,map_nil,e1,e2,sT,kI]
    rfl
end
section
open Go.RowKit Go.Maps Go.Sort
def sK (S:List aO)(R:cN)(T:VT):Prop:=∃lk lk2 es es2 ck ck2 st,T=sT lk lk2 es es2 ck ck2∧SitesOk lk es ck S st∧RepsOk lk2 es2 R
def ez (S:List aO)(i:Int):Bool:=(S.find? λs=>s.1==i).isSome
theorem qe {lk lk2:Value→Option TV}{es es2:List (Value × TV × Nat)}{ck ck2:Nat}{S:List aO}{st:List Nat}{R:cN}(h:SitesOk lk es ck S st)(h2:RepsOk lk2 es2 R)(l:List VO):
  VT.keep ⟨.cells [.map 1,.map 2]:: .map kI lk es ck:: .map kI lk2 es2 ck2::l,[]⟩ 3 0=sT lk lk2 es es2 ck ck2:=by
 have e1:=h.ren (ai 3) (ai 0)
 have e2:=h2.ren ck2 (ai 3) (ai 0)
 simp only [VT.keep,take_succ_cons,take_zero,map_cons,map_nil,e1,e2,sT]
 rfl
def dV (S:List aO)(i:Int):aO:=(S.find? λs=>s.1==i).getD (0,0,0)
theorem xp {lk:Value→Option TV}{es:List (Value × TV × Nat)}{ck:Nat}{S:List aO}{st:List Nat}(h:SitesOk lk es ck S st)(i:Int):
  cf true (lk (aB i)) (.agg #[.int .i64 0,.int .u32 0,.int .i64 0])=.tup [.agg (da (dV S i).1 (dV S i).2.1 (dV S i).2.2),.val (.bool (ez S i))]:=by
 rw [h.at,dV,ez]
 cases S.find? λs=>s.1==i<;>rfl
def gU (S:List aO)(i c u:Int):Int:=bif !ez S i then 7 else bif decide (0≤c∧c≤1000000∧0≤u∧u≤1099511627776) then 0 else 2
def ld (S:List aO)(R:cN)(i c u:Int):cN:=bif gU S i c u==0 then jY i (c,u) R else R
theorem HI {S:List aO}{R:cN}{T:VT}(h:sK S R T)(i c u:Int):
  VCx prog ae 0 B6 [.ptr 0 0,.val (.int .i64 i),.val (.int .i64 c),.val (.int .i64 u)] T λx T'=>x=.val (.int .i64 (gU S i c u))∧sK S (ld S R i c u) T':=by
 obtain ⟨lk,lk2,es,es2,ck,ck2,st,rfl,h1,h2⟩:=h
 have hlk:=λo=>pf (T:=sT lk lk2 es es2 ck ck2) (id:=1) (z:=i) (lk:=lk) (es:=es) (ck:=ck) rfl o
 have g2:=h2.put i (c,u) ck2
 refine VCx.keepQ 3 0 (le_refl _) (le_refl _) (an ah ag aw ak (JL lk lk2 es es2 ck ck2 i c u (dV S i).1 (dV S i).2.1 (dV S i).2.2 (ez S i) _) ?_)
 refine ⟨ed ((hlk true).trans (by rw [xp h1];rfl)),?_⟩
 have same:∀l,∃lk' lk2' es' es2' ck' ck2' st',VT.keep ⟨.cells [.map 1,.map 2]:: .map kI lk es ck:: .map kI lk2 es2 ck2::l,[]⟩ 3 0=sT lk' lk2' es' es2' ck' ck2'∧SitesOk lk' es' ck' S st'∧RepsOk lk2' es2' R:=λl=>⟨_,_,_,_,_,_,_,qe h1 h2 l,h1,h2⟩
 cases hb:ez S i
 ·have ha:gU S i c u=7:=by simp [gU,hb]
  have hr:ld S R i c u=R:=by simp [ld,ha]
  rw [ha,hr]
  exact aL rfl ⟨rfl,same _⟩
 ·refine az rfl ?_
  by_cases hc:0≤c∧c≤1000000∧0≤u∧u≤1099511627776
  ·have ha:gU S i c u=0:=by simp [gU,hb,hc]
   have hr:ld S R i c u=jY i (c,u) R:=by simp [ld,ha]
   rw [ha,hr]
   obtain ⟨c1,c2,c3,c4⟩:=hc
   refine aL (by simpa using c1) (az (by simpa using c2) (aL (by simpa using c3) (az (by simpa using c4) ⟨rfl,_,_,_,_,_,_,_,qe h1 g2 _,h1,g2⟩)))
  ·have ha:gU S i c u=2:=by simp only [gU,hb,Bool.not_true,cond_false,decide_eq_false hc]
   have hr:ld S R i c u=R:=by simp [ld,ha]
   rw [ha,hr]
   by_cases c1:0≤c
   ·refine aL (by simpa using c1) ?_
    by_cases c2:c≤1000000
    ·refine az (by simpa using c2) ?_
     by_cases c3:0≤u
     ·refine aL (by simpa using c3) ?_
      by_cases c4:u≤1099511627776
      ·exact absurd ⟨c1,c2,c3,c4⟩ hc
      ·exact aL (by simpa using c4) ⟨rfl,same _⟩
     ·exact az (by simpa using c3) ⟨rfl,same _⟩
    ·exact aL (by simpa using c2) ⟨rfl,same _⟩
   ·exact az (by simpa using c1) ⟨rfl,same _⟩
end
section
open Go.RowKit Go.Maps Go.Sort
theorem qL (q:IntKind)(x y:Int):bE eql (aj (.int q x) (.int q y))=decide (x=y):=by
 show (x==y)=decide (x=y)
 cases h:x==y
 ·exact (decide_eq_false (by simpa using h)).symm
 ·exact (decide_eq_true (by simpa using h)).symm
def fv (S:List aO)(t:aO):Int:=bif !decide (0≤t.1∧t.1≤255∧t.2.1≠0∧0≤t.2.2∧t.2.2≤1000000) then 2 else bif ez S t.1 then 13 else bif decide (8≤S.length) then 6 else 0
def jI (S:List aO)(t:aO):List aO:=bif fv S t==0 then S++ [t] else S
theorem HJ {S:List aO}{R:cN}{T:VT}(h:sK S R T)(t:aO):
  VCx prog ae 0 B5 [.ptr 0 0,ix t] T λx T'=>x=.val (.int .i64 (fv S t))∧sK (jI S t) R T':=by
 obtain ⟨lk,lk2,es,es2,ck,ck2,st,rfl,h1,h2⟩:=h
 obtain ⟨i,a,c⟩:=t
 have hlen:=h1.len
 refine VCx.keepQ 3 0 (le_refl _) (le_refl _) (an ah ag aw ak (JK lk lk2 es es2 ck ck2 i a c (dV S i).1 (dV S i).2.1 (dV S i).2.2 (ez S i) _) ?_)
 refine ⟨⟨(pf rfl true).trans (by rw [xp h1];rfl)⟩,?_⟩
 have same:∀l,∃lk' lk2' es' es2' ck' ck2' st',VT.keep ⟨.cells [.map 1,.map 2]:: .map kI lk es ck:: .map kI lk2 es2 ck2::l,[]⟩ 3 0=sT lk' lk2' es' es2' ck' ck2'∧SitesOk lk' es' ck' S st'∧RepsOk lk2' es2' R:=λl=>⟨_,_,_,_,_,_,_,qe h1 h2 l,h1,h2⟩
 by_cases hc:0≤i∧i≤255∧a≠0∧0≤c∧c≤1000000
 ·have hc':=hc
  obtain ⟨c1,c2,c3,c4,c5⟩:=hc
  refine aL (by simpa using c1) (az (by simpa using c2) (az (by rw [qL];simpa using c3) (aL (by simpa using c4) (az (by simpa using c5) ?_))))
  cases hb:ez S i
  ·refine az rfl ?_
   by_cases h8:8≤S.length
   ·have ha:fv S (i,a,c)=6:=by simp only [fv,hb,decide_eq_true hc',decide_eq_true h8,Bool.not_true,cond_false,cond_true]
    have hr:jI S (i,a,c)=S:=by simp [jI,ha]
    rw [ha,hr]
    exact aL (decide_eq_true (by omega)) ⟨rfl,same _⟩
   ·have ha:fv S (i,a,c)=0:=by simp only [fv,hb,decide_eq_true hc',decide_eq_false h8,Bool.not_true,cond_false]
    have hr:jI S (i,a,c)=S++ [(i,a,c)]:=by simp [jI,ha]
    have hn:S.find? (λs=>s.1==i)=none:=by
     unfold ez at hb
     cases hf:S.find? λs=>s.1==i with
     |none=>rfl
     |some s=>rw [hf] at hb;cases hb
    have hl:lk (Value.int i64 i)=none:=(h1.at i).trans (by rw [hn];rfl)
    have g1:=h1.put (i,a,c) hn ⟨c1,by simp only;omega⟩ (by omega)
    rw [ha,hr]
    refine az (decide_eq_false (by omega)) ?_
    rw [hl]
    exact ⟨rfl,_,_,_,_,_,_,_,qe g1 h2 _,g1,h2⟩
  ·have ha:fv S (i,a,c)=13:=by simp only [fv,hb,decide_eq_true hc',Bool.not_true,cond_false,cond_true]
   have hr:jI S (i,a,c)=S:=by simp [jI,ha]
   rw [ha,hr]
   exact aL rfl ⟨rfl,same _⟩
 ·have ha:fv S (i,a,c)=2:=by simp only [fv,decide_eq_false hc,Bool.not_false,cond_true]
  have hr:jI S (i,a,c)=S:=by simp [jI,ha]
  rw [ha,hr]
  by_cases c1:0≤i
  ·refine aL (by simpa using c1) ?_
   by_cases c2:i≤255
   ·refine az (by simpa using c2) ?_
    by_cases c3:a=0
    ·exact aL (by rw [qL];simpa using c3) ⟨rfl,same _⟩
    ·refine az (by rw [qL];simpa using c3) ?_
     by_cases c4:0≤c
     ·refine aL (by simpa using c4) ?_
      by_cases c5:c≤1000000
      ·exact absurd ⟨c1,c2,c3,c4,c5⟩ hc
      ·exact aL (by simpa using c5) ⟨rfl,same _⟩
     ·exact az (by simpa using c4) ⟨rfl,same _⟩
   ·exact aL (by simpa using c2) ⟨rfl,same _⟩
  ·exact az (by simpa using c1) ⟨rfl,same _⟩
end
section
open Go.RowKit Go.Maps Go.Sort
theorem GA (m:Mb)(f g:Nat→Option Nat):(l4 m).ren f g=l4 m:=rfl
structure PoOk (lk:Value→Option TV) (es:Es) (ck:Nat) (S:List Mb) (st:List Nat):Prop where
 m:MpOk bh l4 lk es ck S st
 ok:JP S
def bL (S:List Mb)(z:Int):Mb:=(gi bh S z).getD E9
def fM (S:List Mb)(z:Int):Bool:=(gi bh S z).isSome
theorem fe {α:Type}{l:List α}{i:Nat}{x:α}(h:l[i]?=some x):l.set i x=l:=by
 apply ext_getElem?
 intro j
 rw [List.getElem?_set]
 split
 ·rename_i hj;subst hj
  rw [if_pos (List.getElem?_eq_some_iff.1 h).1,h]
 ·rfl
section
variable {n:Int}{lk:Value→Option TV}{es:Es}{ck:Nat}{S:List Mb}{st:List Nat}
theorem PoOk.ren (h:PoOk lk es ck S st)(f g:Nat→Option Nat):VO.ren f g (.map kI lk es ck)=.map kI lk es ck:=h.m.ren GA f g kI ck
theorem dW (h:PoOk lk es ck S st)(l:List VO)(tl:List (Nat × Nat × Bool)):VT.keep ⟨pO n:: .map kI lk es ck::l,tl⟩ 2 0=pT n lk es ck:=by
 have e:=h.ren (ai 2) (ai 0)
 simp only [VT.keep,take_succ_cons,take_zero,map_cons,map_nil,e,pT]
 rfl
theorem nI (h:PoOk lk es ck S st)(v:Value)(l:List VO)(tl:List (Nat × Nat × Bool)):VT.keep ⟨pO n:: .map kI lk es ck:: .cells [.val v]::l,tl⟩ 3 0=y8 n lk es ck (.val v):=by
 have e:=h.ren (ai 3) (ai 0)
 simp only [VT.keep,take_succ_cons,take_zero,map_cons,map_nil,e,y8]
 rfl
theorem Fc (h:PoOk lk es ck S st){T:VT}{i j:Nat}(hi:T.objs[i]?=some (.cells [.val (.int .i64 n),.map j]))(hj:T.objs[j]?=some (.map kI lk es ck)){f:FuncId}{xs ys:List TV}(hy:ay (am [i,j]) (am []) ys=xs)
  {R:TV→(Value→Option TV)→Es→Nat→Prop} (hR:∀x a b c,R x a b c→∀f g,x.ren f g=x)
  (hv:VCx prog ae 0 f xs (pT n lk es ck) λx T'=>∃lk' es' ck',T'=pT n lk' es' ck'∧(∃S' st',PoOk lk' es' ck' S' st')∧R x lk' es' ck'):
  VCx prog ae 0 f ys T λx T'=>∃lk' es' ck',R x lk' es' ck'∧T'={T with objs:=T.objs.set j (.map kI lk' es' ck')}:=by
 have hij:i≠j:=λe=>by rw [e,hj] at hi;cases hi
 have q1:=h.ren (am [i,j]) (am [])
 have hg:T.give [i,j] []=pT n lk es ck:=by
  have h1:am [i,j] j=some 1:=by
   have hb:(i==j)=false:=by rw [beq_eq_false_iff_ne];exact hij
   simp [am,List.idxOf?,List.findIdx?_cons,hb]
  have e0:VO.ren (am [i,j]) (am []) (.cells [.val (.int .i64 n),.map j])=pO n:=by simp only [VO.ren,ay,TV.ren,h1,pO]
  simp only [VT.give,map_cons,map_nil,hi,hj,getD_some,q1,e0,pT]
 refine (VCx.lift (xs:=xs) [i,j] [] bc (by simp [hij]) nodup_nil (λk hk=> ?_) (by simp) (λ_ _=>zero_le _) hy (by rw [hg];exact hv) (λx T' hq=> ?_)).mono ?_
 ·simp only [mem_cons,not_mem_nil,or_false] at hk
  rcases hk with rfl | rfl
  ·exact ⟨_,hi,rfl⟩
  ·exact ⟨_,hj,rfl⟩
 ·obtain ⟨_,_,_,rfl,_⟩:=hq;exact ⟨le_refl 2,zero_le _⟩
 ·rintro x T' ⟨y,T2,⟨a,b,c,rfl,⟨S',st',h'⟩,hr⟩,rfl,rfl⟩
  refine ⟨a,b,c,by rw [hR _ _ _ _ hr];exact hr,?_⟩
  have r1:=h'.ren (aq T.objs.length [i,j]) (aq T.tails.length [])
  have e1:VO.ren (aq T.objs.length [i,j]) (aq T.tails.length []) (pO n)=.cells [.val (.int .i64 n),.map j]:=by simp [pO,VO.ren,ay,TV.ren,aq]
  simp only [VT.back,pT,map_cons,map_nil,r1,e1,aS]
  rw [fe hi]
  simp [aS]
theorem mW {T:VT}{id:Nat}{z:Int}(hid:T.objs[id]?=some (.map kI lk es ck))(ok:Bool):cQ prog T 108 (.map id) (.val (aB z)) ok=some (cf ok (lk (aB z)) (.agg #[.int .i64 0,.int .u32 0,.int .i64 0,.bool false,.bool false])):=by
 have h:∀o:Option VO,o=some (.map kI lk es ck)→(match prog.underlying 108,bM (.val (aB z)) with
   |some (.map kt et),some kv=>match bY prog kt,prog.info? et with
    |some sh,some i=>match i.zero with
     |some zz=>bif sh.fits kv then (match o with
       |some (.map sh' look _ _)=>bif fG sh sh' then some (cf ok (look kv) zz) else none
       |_=>none) else none
     |none=>none
    |_,_=>none
   |_,_=>none)=some (cf ok (lk (aB z)) (.agg #[.int .i64 0,.int .u32 0,.int .i64 0,.bool false,.bool false])):=by
  rintro _ rfl
  kernel_rfl
 exact h _ hid
theorem l6 (h:PoOk lk es ck S st)(z:Int):
  cf true (lk (aB z)) (.agg #[.int .i64 0,.int .u32 0,.int .i64 0,.bool false,.bool false])=.tup [.agg (ei (bL S z).1.1 (bL S z).1.2.1 (bL S z).1.2.2 (bL S z).2.1 (bL S z).2.2),.val (.bool (fM S z))]:=by
 rw [h.m.at,bL,fM]
 unfold gi
 cases S.find? λs=>bh s==z<;>rfl
def sL (n:Int)(lk:Value→Option TV)(es:Es)(ck:Nat)(x0:TV):TV→VT→Prop:=λx T'=>x=x0∧T'=pT n lk es ck
theorem Cj (h:PoOk lk es ck S st){i j:Nat}{f:FuncId}{xs ys0:List TV}{x0:TV}(hy:ay (am [i,j]) (am []) ys0=xs)(hx:∀f g,x0.ren f g=x0)(hv:VCx prog ae 0 f xs (pT n lk es ck) (sL n lk es ck x0)):
  ∀ro ys T K,KH i j n lk es ck ys0 x0 ro ys T K→VCx prog ae ro f ys T K:=by
 rintro ro ys T K ⟨⟨rfl,rfl,hi,hj⟩,hk⟩
 refine (Fc h hi hj hy (R:=λx a b c=>x=x0∧a=lk∧b=es∧c=ck) (λx a b c hr=>by rw [hr.1];exact hx) (hv.mono ?_)).mono ?_
 ·rintro x T' ⟨rfl,rfl⟩
  exact ⟨lk,es,ck,rfl,⟨S,st,h⟩,rfl,rfl,rfl,rfl⟩
 ·rintro x T' ⟨_,_,_,⟨rfl,rfl,rfl,rfl⟩,rfl⟩
  rw [fe hj];exact hk
theorem HK (h:PoOk lk es ck S st)(z:Int):VCx prog ae 0 Cb [.ptr 0 0,.val (.int .i64 z)] (pT n lk es ck) (sL n lk es ck (.tup [.agg (aD (bL S z)),.val (.bool (fM S z))])):=by
 refine VCx.keepQ 2 0 (le_refl _) (le_refl _) (an ah ag aw ak (JR n lk es ck z (bL S z).1.1 (bL S z).1.2.1 (bL S z).1.2.2 (bL S z).2.1 (bL S z).2.2 (fM S z) _) ?_)
 exact ⟨ed ((mW rfl true).trans (by rw [l6 h];rfl)),rfl,dW h _ _⟩
theorem Ck (h:PoOk lk es ck S st)(z:Int):aT prog ae (aE [(Cb,HD n lk es ck z (ei (bL S z).1.1 (bL S z).1.2.1 (bL S z).1.2.2 (bL S z).2.1 (bL S z).2.2) (fM S z))]):=aJ λp hp=>by
 obtain rfl:=mem_singleton.1 hp
 exact Cj h rfl (λ_ _=>rfl) (HK h z)
theorem HL (h:PoOk lk es ck S st)(z:Int):VCx prog ae 0 xh [.ptr 0 0,.val (.int .i64 z)] (pT n lk es ck) (sL n lk es ck (.val (.bool (bL S z).2.1))):=by
 refine VCx.keepQ 2 0 (le_refl _) (le_refl _) (an ah ag (Ck h z) ak (JW n lk es ck z _ _ _ _ _ _ _) ?_)
 exact ⟨⟨rfl,rfl,rfl,rfl⟩,rfl,dW h _ _⟩
theorem HN (h:PoOk lk es ck S st)(z:Int):VCx prog ae 0 Cc [.ptr 0 0,.val (.int .i64 z)] (pT n lk es ck) (sL n lk es ck (.tup [.agg (aA (bL S z).1),.val (.bool (fM S z))])):=by
 refine VCx.keepQ 2 0 (le_refl _) (le_refl _) (an ah ag (Ck h z) ak (JX n lk es ck z _ _ _ _ _ _ _) ?_)
 exact ⟨⟨rfl,rfl,rfl,rfl⟩,rfl,dW h _ _⟩
def xq (S:List Mb)(z:Int)(f:Mb→Mb):List Mb:=match gi bh S z with
 |none=>S
 |some m=>gK bh (f m) S
def HP (q:Bool)(m:Mb):Mb:=(m.1,q,m.2.2)
def HQ (q:Bool)(m:Mb):Mb:=(m.1,m.2.1,q)
theorem PoOk.set (h:PoOk lk es ck S st)(t:Mb)(hn:∃s,S.find? (λs=>bh s==bh t)=some s)(ck2:Nat)(hc:ck≤ck2)(hw:0≤t.1.2.2∧t.1.2.2≤100):
  PoOk (λk=>bif aj (aB (bh t)) k then some (l4 t) else lk k) (bt (aB (bh t)) (l4 t) ck es) ck2 (gK bh t S) st where
 m:=h.m.set t hn ck2 hc
 ok:={
  few:=by simp only [gK,length_map];exact h.ok.few
  nd:=by rw [pi];exact h.ok.nd
  wt:=λm hm=>by
   obtain ⟨s,hs,rfl⟩:=mem_map.1 hm
   cases hb:bh s==bh t
   ·exact h.ok.wt s hs
   ·exact hw}
def Fd (S:List Mb)(z:Int)(f:Mb→Mb):Int→(Value→Option TV)→Es→Nat→Prop:=λ_ a b c=>∃st',PoOk a b c (xq S z f) st'
theorem y9 (h:PoOk lk es ck S st){z:Int}{f:Mb→Mb}(hb:fM S z=false)(e:Int):Fd S z f e lk es ck:=by
 have:xq S z f=S:=by
  unfold xq;unfold fM at hb
  cases hf:gi bh S z with
  |none=>rfl
  |some m=>rw [hf] at hb;cases hb
 exact ⟨st,by rw [this];exact h⟩
theorem Cl (h:PoOk lk es ck S st){z:Int}{f:Mb→Mb}(hb:fM S z=true)(hk:bh (f (bL S z))=bh (bL S z))(hw:0≤(f (bL S z)).1.2.2∧(f (bL S z)).1.2.2≤100)(e:Int)(ck2:Nat)(hc:ck≤ck2):
  Fd S z f e (λk=>bif aj (aB z) k then some (l4 (f (bL S z))) else lk k) (bt (aB z) (l4 (f (bL S z))) ck es) ck2:=by
 unfold fM at hb
 cases hm:gi bh S z with
 |none=>rw [hm] at hb;cases hb
 |some m=>
  have e1:bL S z=m:=by unfold bL;rw [hm];rfl
  have h3:bh m=z:=by simpa using find?_some hm
  rw [e1] at hk hw ⊢
  have e2:xq S z f=gK bh (f m) S:=by unfold xq;rw [hm]
  have h4:bh (f m)=z:=hk.trans h3
  have h5:=h.set (f m) ⟨m,by rw [h4];exact hm⟩ ck2 hc hw
  rw [h4] at h5
  exact ⟨st,by rw [e2];exact h5⟩
theorem za {z:Int}(hb:fM S z=true):bL S z∈S∧bh (bL S z)=z:=by
 unfold fM at hb
 cases hm:gi bh S z with
 |none=>rw [hm] at hb;cases hb
 |some m=>
  have e1:bL S z=m:=by unfold bL;rw [hm];rfl
  rw [e1]
  exact ⟨List.mem_of_find?_eq_some hm,by simpa using find?_some hm⟩
theorem Fe (o:Option TV):ck≤(match o with
 |some _=>ck
 |none=>ck+1):=by cases o<;>simp
theorem HR (h:PoOk lk es ck S st)(q:Bool)(z:Int):aT prog ae (aE [(y7,Fa n lk es ck (.val (.bool q)) z El (Fd S z (HP q)))]):=aJ λp hp=>by
 obtain rfl:=mem_singleton.1 hp
 rintro ro ys T K ⟨⟨rfl,rfl,rfl⟩,hk⟩
 refine VCx.keepQ 3 0 (le_refl _) (le_refl _) (an ah ag aw ak (JS n lk es ck q z (bL S z).1.1 (bL S z).1.2.1 (bL S z).1.2.2 (bL S z).2.1 (bL S z).2.2 (fM S z) _) ?_)
 refine ⟨ed ((mW rfl true).trans (by rw [l6 h];rfl)),aM (λhb=> ?_) (λhb=> ?_)⟩
 ·exact (congrArg (K _) (nI h _ _ _)).mpr (hk 7 lk es ck (y9 h (by simpa using hb) 7))
 ·have hb':fM S z=true:=by simpa using hb
  have hc:=Cl h (f:=HP q) hb' rfl (h.ok.wt (bL S z) (za hb').1) 0 _ (Fe (lk (aB z)))
  obtain ⟨st',h'⟩:=hc
  exact (congrArg (K _) (nI h' _ _ _)).mpr (hk 0 _ _ _ ⟨st',h'⟩)
theorem HT (h:PoOk lk es ck S st)(q:Bool)(z:Int):aT prog ae (aE [(y7,Fa n lk es ck (.val (.bool q)) z Em (Fd S z (HQ q)))]):=aJ λp hp=>by
 obtain rfl:=mem_singleton.1 hp
 rintro ro ys T K ⟨⟨rfl,rfl,rfl⟩,hk⟩
 refine VCx.keepQ 3 0 (le_refl _) (le_refl _) (an ah ag aw ak (JT n lk es ck q z (bL S z).1.1 (bL S z).1.2.1 (bL S z).1.2.2 (bL S z).2.1 (bL S z).2.2 (fM S z) _) ?_)
 refine ⟨ed ((mW rfl true).trans (by rw [l6 h];rfl)),aM (λhb=> ?_) (λhb=> ?_)⟩
 ·exact (congrArg (K _) (nI h _ _ _)).mpr (hk 7 lk es ck (y9 h (by simpa using hb) 7))
 ·have hb':fM S z=true:=by simpa using hb
  have hc:=Cl h (f:=HQ q) hb' rfl (h.ok.wt (bL S z) (za hb').1) 0 _ (Fe (lk (aB z)))
  obtain ⟨st',h'⟩:=hc
  exact (congrArg (K _) (nI h' _ _ _)).mpr (hk 0 _ _ _ ⟨st',h'⟩)
def Cm (n:Int)(S':List Mb):TV→VT→Prop:=λx T'=>∃e lk' es' ck' st',x=.val (.int .i64 e)∧T'=pT n lk' es' ck'∧PoOk lk' es' ck' S' st'
theorem HU (h:PoOk lk es ck S st)(q:Bool)(z:Int):VCx prog ae 0 Cd [.ptr 0 0,.val (.int .i64 z),.val (.bool q)] (pT n lk es ck) (Cm n (xq S z (HP q))):=by
 refine VCx.keepQ 2 0 (le_refl _) (le_refl _) (an ah ag (HR h q z) ak (JU n lk es ck q z _ _) ?_)
 exact ⟨⟨rfl,rfl,rfl⟩,λe a b c ⟨st',h'⟩=>⟨e,a,b,c,st',rfl,dW h' _ _,h'⟩⟩
theorem HV (h:PoOk lk es ck S st)(q:Bool)(z:Int):VCx prog ae 0 Ce [.ptr 0 0,.val (.int .i64 z),.val (.bool q)] (pT n lk es ck) (Cm n (xq S z (HQ q))):=by
 refine VCx.keepQ 2 0 (le_refl _) (le_refl _) (an ah ag (HT h q z) ak (JV n lk es ck q z _ _) ?_)
 exact ⟨⟨rfl,rfl,rfl⟩,λe a b c ⟨st',h'⟩=>⟨e,a,b,c,st',rfl,dW h' _ _,h'⟩⟩
theorem PoOk.put (h:PoOk lk es ck S st)(b:Bk)(hn:fM S b.1=false)(hi:0≤b.1∧b.1<256)(hw:0≤b.2.2∧b.2.2≤100)(hl:S.length<16):
  PoOk (λk=>bif aj (aB b.1) k then some (l4 (b,false,false)) else lk k) (bt (aB b.1) (l4 (b,false,false)) ck es) (ck+1) (S++ [(b,false,false)]) (st++ [ck]):=by
 have hn':S.find? (λs=>bh s==bh (b,false,false))=none:=by
  unfold fM gi at hn
  show S.find? (λs=>bh s==b.1)=none
  cases hf:S.find? λs=>bh s==b.1 with
  |none=>rfl
  |some s=>rw [hf] at hn;cases hn
 have hm:=h.m.put (b,false,false) hn' hi
 exact {
  m:=hm
  ok:={
   few:=by simp;omega
   nd:=hm.nd
   wt:=λm hm=>by
    rcases List.mem_append.1 hm with hm | hm
    ·exact h.ok.wt m hm
    ·rw [mem_singleton.1 hm];exact hw}}
theorem HW (h:PoOk lk es ck S st)(b:Bk):VCx prog ae 0 Ca [.ptr 0 0,.agg (aA b)] (pT n lk es ck) λx T'=>∃S',Cm n S' x T':=by
 obtain ⟨i,a,c⟩:=b
 refine VCx.keepQ 2 0 (le_refl _) (le_refl _) (an ah ag aw ak (JQ n lk es ck i a c (bL S i).1.1 (bL S i).1.2.1 (bL S i).1.2.2 (bL S i).2.1 (bL S i).2.2 (fM S i) _) ?_)
 have same:∀e l tl,∃S',Cm n S' (.val (.int .i64 e)) (VT.keep ⟨pO n:: .map kI lk es ck::l,tl⟩ 2 0):=λe l tl=>⟨S,e,lk,es,ck,st,rfl,dW h _ _,h⟩
 refine aM (λ_=>same _ _ _) λh1=>aM (λ_=>same _ _ _) λh2=>aM (λ_=>same _ _ _) λh3=>aM (λh4=>aM (λ_=>same _ _ _) λh5=> ?_) λ_=>same _ _ _
 refine ⟨⟨(mW rfl true).trans (by rw [l6 h];rfl)⟩,aM (λ_=>same _ _ _) λhb=>aM (λ_=>same _ _ _) λh6=> ?_⟩
 simp at h1 h2 h4 h5 h6
 have hlen:=h.m.len
 have hl:lk (Value.int i64 i)=none:=by
  refine (h.m.at i).trans ?_
  unfold fM gi at hb
  cases hf:S.find? λs=>bh s==i with
  |none=>rfl
  |some s=>rw [hf] at hb;cases hb
 have hp:=h.put (i,a,c) hb ⟨h1,by simp only;omega⟩ ⟨h4,h5⟩ (by omega)
 rw [hl]
 exact ⟨_,0,_,_,_,_,rfl,dW hp _ _,hp⟩
end
end
section
open Go.RowKit Go.Maps Go.Sort Go.Shelf
theorem GB {G:aC}{ro k m:Nat}{T:VT}{sh:KS}{look:Value→Option TV}{es:List (Value × TV × Nat)}{ck:Nat}{ids:List Int}(hk0:T.objs[k]?=some (.cells [.map m]))(hm0:T.objs[m]?=some (.map sh look es ck))(hk:es.map (·.1)=ids.map aB)(hw:∀z∈ids,0≤z∧z<1000)(hb1:∀e∈es,e.2.2<ck)(hb2:(es.map (·.2.2)).Nodup)(hn:ids.length≤100):
    VCx prog G ro uS [.fn (.func vF) [] [.ptr k 0]] T λx T'=>x=.vec 1 ((ids.mergeSort leI).map λz=> [.val (aB z)]) .none∧T'=T:=by
  intro g w us r hG hx
  match us,hx.1 with
  |[u],_=>
    obtain ⟨us',vs,rfl,h3,h4⟩:=(hx.2 0 _ u rfl rfl).fn_inv
    have e3:us'= []:=eq_nil_of_length_eq_zero h3.1
    subst e3
    match vs,h4 with
    |[v],h4=>
      obtain ⟨Bm,o1,rfl⟩:=(h4.2 0 _ v rfl rfl).ptr_inv
      obtain ⟨B0,p1,⟨us0,t0,p2,p3,_⟩,_,_⟩:=r.obj k _ hk0 rfl
      rw [o1] at p1;injection p1 with p1;subst p1
      obtain ⟨b,q1,⟨ms,q2,q3,q4,q5,q6,q7,q8⟩,_,_⟩:=r.obj m _ hm0 rfl
      have hBm:Bm<w.heap.size:=(Array.getElem?_eq_some_iff.1 p2).1
      have hbl:b<w.heap.size:=(Array.getElem?_eq_some_iff.1 q2).1
      have hcell:w.cell? ⟨Bm,0,none⟩=some (.map (some b)):=by
        match us0,p3 with
        |[x],p3=>
          obtain ⟨b2,r1,rfl⟩:=(p3.2 0 _ x rfl rfl).map_inv
          rw [q1] at r1;injection r1 with r1;subst r1
          simp [cell?,p2]
        |[],p3=>have:=p3.1;simp at this
        |_::_::_,p3=>have:=p3.1;simp at this
      have hkeys:ms.toList.map (·.key)=ids.map aB:=q3.trans hk
      have hlen:ms.toList.length=ids.length:=by have:=congrArg length hkeys;simpa using this
      have hown:w.ownsMap prog 3 kZ b ids.length (.map ((ms.toList.map (Go.WideElems.rg prog 3 kZ)).foldr DataW.insert [])):=by
        refine ⟨ms,ck,q2,⟨?_,⟨?_,?_,?_⟩,?_⟩,?_,rfl⟩
        · simp only [length_toList] at hlen
          rw [hlen];unfold maxLen;omega
        · intro x hx
          have hm:x.born∈ms.toList.map (·.born):=mem_map_of_mem hx
          rw [q5] at hm
          obtain ⟨e,he,heq⟩:=mem_map.1 hm
          rw [←heq];exact hb1 e he
        · rw [q5];exact hb2
        · rw [q3];exact q7
        · intro x hx
          have hm:x.key∈ms.toList.map (·.key):=mem_map_of_mem hx
          rw [hkeys] at hm
          obtain ⟨z,hz,heq⟩:=mem_map.1 hm
          exact ⟨_,wV heq.symm (hw z hz)⟩
        · simp only [length_toList] at hlen
          omega
      have hsz:Maps.size (.map ((ms.toList.map (Go.WideElems.rg prog 3 kZ)).foldr DataW.insert []):DataW Unit)=ids.length:=by
        simp only [Maps.size,DataW.length_sorted,length_map]
        exact hlen
      have hseq:SeqGives wide 2 prog vF #[.pointer (some ⟨Bm,0,none⟩)] encZ (λss=>ss.Perm (intKeys (.map ((ms.toList.map (Go.WideElems.rg prog 3 kZ)).foldr DataW.insert []):DataW Unit))) _ w:=
        AnyZI.keys_gives (ρ:=Tryz.keysP_ren) {Tryz.keysP with} wide _ trivial rfl (by omega) Bm b ids.length _ w hBm hcell hown
      have cS:=AnyZI.sorted_in Tryz.sortedI wide 5 trivial trivial trivial trivial rfl (by omega) (B4 _) (enters_of Tryz.func95 (by kernel_rfl) rfl) vF #[.pointer (some ⟨Bm,0,none⟩)] trivial (enters_of Tryz.func96 (by kernel_rfl) rfl) _ _ (by rw [hsz];unfold maxLen;omega) (by rw [hsz];omega) w hseq
      refine ((callsIn_wide (n:=5)).1 cS).mono ?_
      rintro e w' ⟨v,ss,rfl,hS,⟨hl,hrow⟩,_,gr⟩
      have hsort:ss.mergeSort (λx y=>decide (x≤y))=ids.mergeSort leI:=mergeSort_of_perm_i (hS.trans (lX hkeys hw))
      have hsl:ss.length=ids.length:=(hS.trans (lX hkeys hw)).length_eq
      rw [hsort] at hl hrow
      have r1:=r.gr gr
      have e1:=Evo.of_gr r gr
      have hms:(ids.mergeSort leI).length=ids.length:=length_mergeSort ids
      rcases hrow with ⟨rfl,h0⟩ | ⟨b',cap,cur,rfl,hb,hg,hnc,hcm,hcs,htk⟩
      · have h1:ids.mergeSort leI= []:=eq_nil_of_length_eq_zero (by omega)
        rw [h1]
        exact ⟨_,_,g,_,rfl,⟨rfl,rfl⟩,e1,r1,.nil trivial,Fix.of_same (Same.of_gr r gr) (by simp)⟩
      · have hnf:¬g.fr b':=λhf=>by have:=r.fr b' hf;omega
        have hcell':∀(j:Nat) u,((ids.mergeSort leI).map aB)[j]?=some u→w'.cell? ⟨b',0+j,none⟩=some u:=λj u hu=>by
          unfold cell?
          simp only [hg,zero_add]
          have hu':((ids.mergeSort leI).map encZ)[j]?=some u:=hu
          rw [←htk,getElem?_take] at hu'
          split at hu'
          · simpa using hu'
          · cases hu'
        have hfl:((ids.mergeSort leI).map λz=> [TV.val (aB z)]).flatten=((ids.mergeSort leI).map aB).map .val:=by
          have:=B3 ((ids.mergeSort leI).map aB)
          rw [map_map] at this
          exact this
        refine ⟨_,_,g.addSt b' (λo=>o<(ids.mergeSort leI).length),_,rfl,⟨rfl,rfl⟩,e1.trans (Evo.addSt hnf),r1.addSt hnf (λid o h hl'=>(r.fresh hb).obj id o h hl') (λk x o hx _ hin=>(r.fresh hb).tl k x hx (.inl ⟨o,hin⟩)) (λo ho=> ?_),?_,Fix.of_same (Same.of_gr r gr) (by simp)⟩
        · have:=hcell' o _ (by rw [getElem?_map,getElem?_eq_getElem ho];rfl)
          rw [zero_add] at this
          rw [this];rfl
        · refine .mk_vec (us:=(ids.mergeSort leI).map aB) (by simp [hms,hsl]) hnc hcm (λe he=>by obtain ⟨z,_,rfl⟩:=mem_map.1 he;rfl) trivial (by rw [hfl];exact VRs.vals _ _ _) (λj hj=>.inr ⟨rfl,?_⟩) hcell' (λu hu=>by obtain ⟨z,_,rfl⟩:=mem_map.1 hu;rfl)
          rw [hfl] at hj
          simpa using hj
    |[],h4=>have:=h4.1;simp at this
    |_::_::_,h4=>have:=h4.1;simp at this
end
section
open Go.RowKit
def Gd (w w':World):Prop:=Gr w w'∧w.drawn≤w'.drawn
theorem Gd.grow {w w':World}(h:Gd w w'):∃q os,w'=Go.Sort.grow (w.drewN q) os:=by
 obtain ⟨g,hd⟩:=h
 unfold Gr at g
 refine ⟨w'.drawn-w.drawn,w'.heap.extract w.heap.size w'.heap.size,?_⟩
 have hh:w'.heap=w.heap++w'.heap.extract w.heap.size w'.heap.size:=by
  apply Array.ext_getElem?
  intro i
  by_cases hi:i<w.heap.size
  ·rw [Array.getElem?_append_left hi,g.block i hi]
  ·rw [Array.getElem?_append_right (by omega),Array.getElem?_extract]
   by_cases hi2:i<w'.heap.size
   ·rw [if_pos (by simp;omega),show w.heap.size+(i-w.heap.size)=i by omega]
   ·rw [if_neg (by omega),Array.getElem?_eq_none (by omega)]
 have ho:=g.os;have ht:=g.tape;have hp:=g.output
 cases w';cases w
 simp only [Go.Sort.grow,World.drewN] at*
 subst ho ht hp
 congr 1
 omega
theorem Gd.alloc {a w:World}(h:Gd a w)(o:Obj):Gd a (w.alloc o):=⟨h.1.alloc o,h.2⟩
theorem Gd.drew {a w:World}(h:Gd a w):Gd a w.drew:=⟨h.1.drew,le_trans h.2 (Nat.le_succ _)⟩
theorem Gd.refl (w:World):Gd w w:=⟨Gr.refl w,le_refl _⟩
theorem Gd.trans {a b c:World}(h:Gd a b)(k:Gd b c):Gd a c:=⟨h.1.trans k.1,le_trans h.2 k.2⟩
end
section
open Go.RowKit
def dt (a b:Int):Int:=if a<b then-1 else if b<a then 1 else 0
set_option maxHeartbeats 400000 in
theorem Ff (a b:Int)(w:World):Calls prog 85 #[.int .i64 a,.int .i64 b] w λe w'=>e=.returned (.int .i64 (dt a b))∧w=w':=by
 go_enter Tryz.func85,Tryz.ntmps85
 go_wp2
 all_goals (go_ret;exact ⟨td (by unfold dt;first | rw [if_pos ‹_›] | rw [if_neg (by omega),if_pos (by omega)] | rw [if_neg (by omega),if_neg (by omega)]),rfl⟩)
def lf:List Int→Int
 |[]=>0
 |x::r=>if x=0 then lf r else x
theorem ry:∀(zs:List Int) (k:Nat),(∀j,j<k→zs.getD j 0=0)→lf zs=lf (zs.drop k)
 |[],_,_=>by simp
 |x::r,0,_=>by simp
 |x::r,k+1,h=>by
  have h0:=h 0 (by omega)
  simp at h0
  simp only [lf,h0,if_true,List.drop_succ_cons]
  exact ry r k (λj hj=>by have:=h (j+1) (by omega);simpa using this)

set_option maxHeartbeats 400000 in
theorem KL (zs:List Int)(w:World)(pb po:Nat)(hn:zs.length≤1000)(hc:∀j,j<zs.length→w.cell? ⟨pb,po+j,none⟩=some (.int .i64 (zs.getD j 0))):
  Calls prog 84 #[.slice (some ⟨pb,po,none⟩) zs.length zs.length] w λe w'=>e=.returned (.int .i64 (lf zs))∧w=w':=by
 have HC:=Lib.hid hc
 clear hc
 go_enter Tryz.func84,Tryz.ntmps84
 go_wp2
 go_loop [5,8] (λ_ i=>∃k:Nat,k≤zs.length∧i=.int .i64 k∧∀j,j<k→zs.getD j 0=0) (λ_ i=>zs.length-(intOf i).toNat)
 case atStart=>exact ⟨0,zero_le _,rfl,λj hj=>absurd hj (by omega)⟩
 case round=>
  obtain ⟨k,hk,rfl,hz⟩:=hrel
  have HZ:=Lib.hid hz
  clear hz
  by_cases hlt:k<zs.length
  ·have c0:=HC.out k hlt
   generalize hx:zs.getD k 0=x at c0
   have HX:=Lib.hid hx
   clear hx
   by_cases h0:x=0
   ·subst h0
    go_wp2
    go_round
    case rel=>exact ⟨k+1,by omega,by go_num,λj hj=>by
     rcases Nat.lt_or_ge j k with h | h
     ·exact HZ.out j h
     ·obtain rfl:j=k:=by omega
      exact HX.out⟩
    case measure=>simp [intOf];omega
   ·have e1:=Lib.hid (show lf zs=x by
     rw [ry zs k HZ.out,List.drop_eq_getElem_cons hlt]
     have:zs[k]=x:=by rw [←HX.out];simp [hlt]
     simp only [lf,this,h0,if_false])
    have h0':(x !=0)=true:=by simpa using h0
    clear h0
    go_wp2
    go_ret
    exact ⟨by rw [e1.out];rfl,rfl⟩
  ·have e1:=Lib.hid (show lf zs=0 by
    rw [ry zs k HZ.out,List.drop_eq_nil_of_le (by omega)];rfl)
   go_wp2
   go_ret
   exact ⟨by rw [e1.out];rfl,rfl⟩
def Fg (x y:Int × Int × Int):Int:=lf [dt x.2.2 y.2.2,dt x.1 y.1]
set_option maxHeartbeats 800000 in
theorem GC (a b:Int × Int × Int)(w:World):
  Calls prog 83 #[.agg #[.int .i64 a.1,.int .u32 a.2.1,.int .i64 a.2.2],.agg #[.int .i64 b.1,.int .u32 b.2.1,.int .i64 b.2.2]] w λe w'=>e=.returned (.int .i64 (Fg a b))∧Gd w w':=by
 have g0:=((Gr.refl w).alloc (.cells #[.int .i64 a.1,.int .u32 a.2.1,.int .i64 a.2.2] 62))
 have gw:=g0.alloc (.cells #[.int .i64 b.1,.int .u32 b.2.1,.int .i64 b.2.2] 62)
 have x:=λi v h=>vK ((Gr.refl _).alloc (.cells #[.int .i64 b.1,.int .u32 b.2.1,.int .i64 b.2.2] 62)) (pL w [.int .i64 a.1,.int .u32 a.2.1,.int .i64 a.2.2] 62 i v h)
 have d0:=x 0 _ rfl
 have d2:=x 2 _ rfl
 have y:=λi v h=>pL (w.alloc (.cells #[.int .i64 a.1,.int .u32 a.2.1,.int .i64 a.2.2] 62)) [.int .i64 b.1,.int .u32 b.2.1,.int .i64 b.2.2] 62 i v h
 have d3:=y 0 _ rfl
 have d5:=y 2 _ rfl
 clear x y g0
 simp only [World.size_alloc] at d3 d5
 go_enter func83,Tryz.ntmps83
 go_wp2_with fail
 have hd:((w.alloc (.cells #[.int .i64 a.1,.int .u32 a.2.1,.int .i64 a.2.2] 62)).alloc (.cells #[.int .i64 b.1,.int .u32 b.2.1,.int .i64 b.2.2] 62)).drawn=w.drawn:=rfl
 generalize (w.alloc (.cells #[.int .i64 a.1,.int .u32 a.2.1,.int .i64 a.2.2] 62)).alloc (.cells #[.int .i64 b.1,.int .u32 b.2.1,.int .i64 b.2.2] 62)=W at*
 replace gw:Gd w W:=⟨gw,by omega⟩
 replace d0:=λw' (k:Gd W w')=>d0 w' k.1
 replace d2:=λw' (k:Gd W w')=>d2 w' k.1
 replace d3:=λw' (k:Gd W w')=>d3 w' k.1
 replace d5:=λw' (k:Gd W w')=>d5 w' k.1
 have e:=Lib.hid (show Fg a b=lf [dt a.2.2 b.2.2,dt a.1 b.1] from rfl)
 generalize a.1=a1 at*
 generalize a.2.1=a2 at*
 generalize a.2.2=a3 at*
 generalize b.1=b1 at*
 generalize b.2.1=b2 at*
 generalize b.2.2=b3 at*
 have hS0:=(Gd.refl W).drew
 refine mA [(0,true),(1,true),(2,true),(3,true),(5,true),(6,true),(7,true),(8,true),(4,false),(9,false),(10,false),(11,false),(12,true)] (Gd W) (by kernel_rfl) (by kernel_rfl) hS0 ?_
 simp only [gn,List.getElem?_toArray,getElem?_cons_zero,getElem?_cons_succ]
 repeat (first
  | (refine mc (by rfl) ?_;(try simp only [Act.put,setIfInBounds_toArray,set_cons_zero,set_cons_succ]))
  | (refine md (by rfl) ?_;apply Exists.intro;refine ⟨λw' hSw=> ?_,?_⟩;(focus ((try dsimp only at hSw);go_simp;first | done | with_reducible rfl));(try simp only [Act.put,setIfInBounds_toArray,set_cons_zero,set_cons_succ]))
  | (refine jv (by rfl) (λK hK=> ?_);go_simp;(first | (go_at_call 85;refine (Ff _ _ _).mono ?_;rintro e w2 ⟨rfl,rfl⟩) | (go_at_call 84;refine (KL [dt a3 b3,dt a1 b1] _ _ 0 (by simp) ?_).mono ?_;(focus (intro j hj;simp at hj;obtain rfl | rfl:j=0∨j=1:=(by omega))<;>simp);rintro e w2 ⟨rfl,rfl⟩));refine hK _ _ (by first | exact Gd.alloc (by assumption) _ | assumption) (λhSn=> ?_);clear hK K;(try simp only [Act.put,setIfInBounds_toArray,set_cons_zero,set_cons_succ]))
  | (refine jv (by rfl) (λK hK=> ?_);go_simp;refine hK _ _ (by first | exact Gd.alloc (by assumption) _ | assumption) (λhSn=> ?_);clear hK K;(try simp only [Act.put,setIfInBounds_toArray,set_cons_zero,set_cons_succ])))
 refine nb ?_
 go_wp2
 go_ret
 exact ⟨by rw [e.out];rfl,gw.trans (by assumption)⟩
end
section
open Go.RowKit
set_option maxHeartbeats 400000 in
theorem HY (a b:Int)(w:World):Calls prog 93 #[.int .u64 a,.int .u64 b] w λe w'=>e=.returned (.int .i64 (dt a b))∧w=w':=by
 go_enter Tryz.func93,Tryz.ntmps93
 go_wp2
 all_goals (go_ret;exact ⟨td (by unfold dt;first | rw [if_pos ‹_›] | rw [if_neg (by omega),if_pos (by omega)] | rw [if_neg (by omega),if_neg (by omega)]),rfl⟩)
def fg (x y:Int × Int × Int):Int:=lf [dt y.2.2 x.2.2,dt x.2.1 y.2.1,dt x.1 y.1]
set_option maxHeartbeats 800000 in
theorem GD (a b:Int × Int × Int)(w:World):
  Calls prog 92 #[.agg #[.int .i64 a.1,.int .i64 a.2.1,.int .u64 a.2.2],.agg #[.int .i64 b.1,.int .i64 b.2.1,.int .u64 b.2.2]] w λe w'=>e=.returned (.int .i64 (fg a b))∧Gd w w':=by
 have g0:=((Gr.refl w).alloc (.cells #[.int .i64 a.1,.int .i64 a.2.1,.int .u64 a.2.2] 150))
 have gw:=g0.alloc (.cells #[.int .i64 b.1,.int .i64 b.2.1,.int .u64 b.2.2] 150)
 have x:=λi v h=>vK ((Gr.refl _).alloc (.cells #[.int .i64 b.1,.int .i64 b.2.1,.int .u64 b.2.2] 150)) (pL w [.int .i64 a.1,.int .i64 a.2.1,.int .u64 a.2.2] 150 i v h)
 have d0:=x 0 _ rfl
 have d1:=x 1 _ rfl
 have d2:=x 2 _ rfl
 have y:=λi v h=>pL (w.alloc (.cells #[.int .i64 a.1,.int .i64 a.2.1,.int .u64 a.2.2] 150)) [.int .i64 b.1,.int .i64 b.2.1,.int .u64 b.2.2] 150 i v h
 have d3:=y 0 _ rfl
 have d4:=y 1 _ rfl
 have d5:=y 2 _ rfl
 clear x y g0
 simp only [World.size_alloc] at d3 d4 d5
 go_enter func92,Tryz.ntmps92
 go_wp2_with fail
 have hd:((w.alloc (.cells #[.int .i64 a.1,.int .i64 a.2.1,.int .u64 a.2.2] 150)).alloc (.cells #[.int .i64 b.1,.int .i64 b.2.1,.int .u64 b.2.2] 150)).drawn=w.drawn:=rfl
 generalize (w.alloc (.cells #[.int .i64 a.1,.int .i64 a.2.1,.int .u64 a.2.2] 150)).alloc (.cells #[.int .i64 b.1,.int .i64 b.2.1,.int .u64 b.2.2] 150)=W at*
 replace gw:Gd w W:=⟨gw,by omega⟩
 replace d0:=λw' (k:Gd W w')=>d0 w' k.1
 replace d1:=λw' (k:Gd W w')=>d1 w' k.1
 replace d2:=λw' (k:Gd W w')=>d2 w' k.1
 replace d3:=λw' (k:Gd W w')=>d3 w' k.1
 replace d4:=λw' (k:Gd W w')=>d4 w' k.1
 replace d5:=λw' (k:Gd W w')=>d5 w' k.1
 have e:=Lib.hid (show fg a b=lf [dt b.2.2 a.2.2,dt a.2.1 b.2.1,dt a.1 b.1] from rfl)
 generalize a.1=a1 at*
 generalize a.2.1=a2 at*
 generalize a.2.2=a3 at*
 generalize b.1=b1 at*
 generalize b.2.1=b2 at*
 generalize b.2.2=b3 at*
 have hS0:=(Gd.refl W).drew
 refine mA [(0,true),(1,true),(2,true),(3,true),(5,true),(6,true),(7,true),(8,true),(10,true),(11,true),(12,true),(13,true),(4,false),(9,false),(14,false),(15,false),(16,false),(17,true)] (Gd W) (by kernel_rfl) (by kernel_rfl) hS0 ?_
 simp only [gn,List.getElem?_toArray,getElem?_cons_zero,getElem?_cons_succ]
 repeat (first
  | (refine mc (by rfl) ?_;(try simp only [Act.put,setIfInBounds_toArray,set_cons_zero,set_cons_succ]))
  | (refine md (by rfl) ?_;apply Exists.intro;refine ⟨λw' hSw=> ?_,?_⟩;(focus ((try dsimp only at hSw);go_simp;first | done | with_reducible rfl));(try simp only [Act.put,setIfInBounds_toArray,set_cons_zero,set_cons_succ]))
  | (refine jv (by rfl) (λK hK=> ?_);go_simp;(first | (go_at_call 93;refine (HY _ _ _).mono ?_;rintro e w2 ⟨rfl,rfl⟩) | (go_at_call 85;refine (Ff _ _ _).mono ?_;rintro e w2 ⟨rfl,rfl⟩) | (go_at_call 84;refine (KL [dt b3 a3,dt a2 b2,dt a1 b1] _ _ 0 (by simp) ?_).mono ?_;(focus (intro j hj;simp at hj;obtain rfl | rfl | rfl:j=0∨j=1∨j=2:=(by omega))<;>simp);rintro e w2 ⟨rfl,rfl⟩));refine hK _ _ (by first | exact Gd.alloc (by assumption) _ | assumption) (λhSn=> ?_);clear hK K;(try simp only [Act.put,setIfInBounds_toArray,set_cons_zero,set_cons_succ]))
  | (refine jv (by rfl) (λK hK=> ?_);go_simp;refine hK _ _ (by first | exact Gd.alloc (by assumption) _ | assumption) (λhSn=> ?_);clear hK K;(try simp only [Act.put,setIfInBounds_toArray,set_cons_zero,set_cons_succ])))
 refine nb ?_
 go_wp2
 go_ret
 exact ⟨by rw [e.out];rfl,gw.trans (by assumption)⟩
end
section
open Go.RowKit Go.Sort
variable {α:Type}[Inhabited α]
theorem zb (enc:α→List Value)(k:Nat)(hk:∀x,(enc x).length=k):∀(l:List α) (i c:Nat),i<l.length→c<k→(l.flatMap enc)[i*k+c]?=(enc l[i]!)[c]?
 |[],i,c,h,_=>by simp at h
 |x::r,0,c,_,hc=>by
  rw [flatMap_cons,List.getElem?_append_left (by rw [hk];omega)]
  simp
 |x::r,i+1,c,h,hc=>by
  rw [flatMap_cons,List.getElem?_append_right (by rw [hk,add_mul];omega),hk,show (i+1)*k+c-k=i*k+c by rw [add_mul];omega,
   zb enc k hk r i c (by simpa using h) hc]
  simp
omit [Inhabited α] in
theorem gj (enc:α→List Value)(k:Nat)(hk:∀x,(enc x).length=k)(l:List α):(l.flatMap enc).length=l.length*k:=by
 induction l with
 |nil=>simp
 |cons x r ih=>rw [flatMap_cons,length_append,hk,ih,length_cons,add_mul];omega
theorem sM (enc:α→List Value)(k:Nat)(hk:∀x,(enc x).length=k)(d:Array α)(t:Nat)(ht:t<d.size*k):(d.toList.flatMap enc)[t]?=some (flatK enc k d)[t]!:=by
 have k0:0<k:=by
  rcases Nat.eq_zero_or_pos k with h | h
  ·subst h;simp at ht
  ·exact h
 have hi:t/k<d.size:=(Nat.div_lt_iff_lt_mul k0).2 ht
 have hc:t%k<k:=Nat.mod_lt _ k0
 have e:t/k*k+t%k=t:=by rw [Nat.mul_comm];exact Nat.div_add_mod t k
 have h:=zb enc k hk d.toList (t/k) (t%k) (by simpa using hi) hc
 rw [e] at h
 rw [h,get_flatK enc k d t ht]
 have e2:d.toList[t/k]! =d[t/k]!:=by simp [hi]
 rw [e2,getElem!_pos (enc d[t/k]!) (t%k) (by rw [hk];exact hc),getElem?_eq_getElem]
theorem uY (enc:α→List Value)(k:Nat)(hk:∀x,(enc x).length=k){w:World}{base:Nat}{e:TypeId}{v:Value}(d:Array α)(h:w.ownsRow base e k v d.size (d.toList.flatMap enc))(hn:0<d.size):
  ∃g cap,v=.slice (some ⟨g,0,none⟩) d.size cap∧base≤g∧g<w.heap.size∧HoldsK enc k w g 0 d:=by
 obtain ⟨hl,hx⟩:=h
 rcases hx with ⟨_,h0⟩ | ⟨g,cap,cur,rfl,hb,hg,hnc,hcm,hcs,htk⟩
 ·omega
 ·refine ⟨g,cap,rfl,hb,(Array.getElem?_eq_some_iff.1 hg).1,?_⟩
  intro j hj
  rw [size_flatK] at hj
  have h1:=sM enc k hk d j hj
  rw [←htk] at h1
  rw [getElem?_take,if_pos hj] at h1
  constructor
  ·unfold cell?
   simp only [hg,zero_add]
   simpa using h1
  ·unfold World.frozen?
   simp [hg]
end
end Go.Proofs.YtgboehkdijjnkaaGreatDoor
namespace Go.Proofs
open Go.RowKit
open _root_.Array (length_toList)
open Go.BinOp (eql)
open _root_.Bool (not_eq_true')
open Go.Calls (mono)
open Go.Fence (wide)
open _root_.Function (comp_def)
open Go.IntKind (i64 u32 u64 wrap)
open _root_.List (append_nil eq_nil_of_length_eq_zero ext_getElem? find?_some flatMap_cons flatten flatten_cons getElem?_cons_succ getElem?_cons_zero getElem?_eq_getElem getElem?_eq_none getElem?_map getElem?_take length length_append length_cons length_map length_mergeSort length_nil map_append map_cons map_map map_nil mem_cons mem_cons_of_mem mem_cons_self mem_map mem_map_of_mem mem_of_getElem? mem_singleton nodup_nil not_mem_nil setIfInBounds_toArray set_cons_succ set_cons_zero take_length take_succ_cons take_zero zipWith)
open _root_.Nat (add_mul beq beq_refl le_refl le_trans not_lt_zero zero_add zero_le)
open _root_.Option (getD_some map_some)
open Go.Sort (grow)
open Go.Proofs.Tryz (func100 func117 func118 func142 func143 func83 func92 isAgg0 isAgg29 isAgg3 isAgg4 isAgg5 isAgg53 isAgg72 isAgg9 prog sizeOf0 sizeOf3 sizeOf4 sizeOf5 sizeOf9)
open Go.World (cell?)
open Go.Shelf
def Tryz.sortSeat_ren:Go.Shelf.Ren:=⟨λ| 6=>91 | 15=>100 | 14=>104 | 28=>117 | 29=>118 | 20=>124 | 21=>125 | 22=>126 | 23=>127 | 24=>128 | 25=>129 | 26=>130 | 27=>131 | 46=>150 | 47=>142 | 48=>143 | 49=>151 | 50=>152 | 57=>159 | n=>n,λ| 22=>147 | 24=>150 | 25=>167 | 3=>3 | 39=>72 | 0=>0 | 53=>29 | 55=>53 | 4=>4 | 46=>181 | 45=>180 | 50=>116 | 5=>5 | 9=>9 | 66=>203 | 70=>207 | 76=>216 | 77=>217 | n=>n,λ| n=>n⟩
theorem Tryz.sortSeat:Go.Proofs.SlLaysF0.n6 prog Tryz.sortSeat_ren:={
 mixed:=by kernel_rfl
 f6:=⟨Tryz.f91.name,by decide,Tryz.func91.trans (congrArg some (by kernel_rfl))⟩
 f14:=⟨Tryz.f104.name,by decide,Tryz.func104.trans (congrArg some (by kernel_rfl))⟩
 f15:=func100.trans (congrArg some (by kernel_rfl))
 f20:=⟨Tryz.f124.name,by decide,Tryz.func124.trans (congrArg some (by kernel_rfl))⟩
 f21:=⟨Tryz.f125.name,by decide,Tryz.func125.trans (congrArg some (by kernel_rfl))⟩
 f22:=⟨Tryz.f126.name,by decide,Tryz.func126.trans (congrArg some (by kernel_rfl))⟩
 f23:=⟨Tryz.f127.name,by decide,Tryz.func127.trans (congrArg some (by kernel_rfl))⟩
 f24:=⟨Tryz.f128.name,by decide,Tryz.func128.trans (congrArg some (by kernel_rfl))⟩
 f25:=⟨Tryz.f129.name,by decide,Tryz.func129.trans (congrArg some (by kernel_rfl))⟩
 f26:=⟨Tryz.f130.name,by decide,Tryz.func130.trans (congrArg some (by kernel_rfl))⟩
 f27:=⟨Tryz.f131.name,by decide,Tryz.func131.trans (congrArg some (by kernel_rfl))⟩
 f28:=func117.trans (congrArg some (by kernel_rfl))
 f29:=func118.trans (congrArg some (by kernel_rfl))
 f46:=⟨Tryz.f150.name,by decide,Tryz.func150.trans (congrArg some (by kernel_rfl))⟩
 f47:=func142.trans (congrArg some (by kernel_rfl))
 f48:=func143.trans (congrArg some (by kernel_rfl))
 f49:=⟨Tryz.f151.name,by decide,Tryz.func151.trans (congrArg some (by kernel_rfl))⟩
 f50:=⟨Tryz.f152.name,by decide,Tryz.func152.trans (congrArg some (by kernel_rfl))⟩
 f57:=⟨Tryz.f159.name,by decide,Tryz.func159.trans (congrArg some (by kernel_rfl))⟩
 t0:=Tryz.underlying0
 a0:=isAgg0
 z0:=sizeOf0
 v0:=Tryz.zeroValue0
 t3:=Tryz.underlying3
 a3:=isAgg3
 z3:=sizeOf3
 v3:=Tryz.zeroValue3
 t4:=Tryz.underlying4
 a4:=isAgg4
 z4:=sizeOf4
 v4:=Tryz.zeroValue4
 t5:=Tryz.underlying5
 a5:=isAgg5
 z5:=sizeOf5
 v5:=Tryz.zeroValue5
 t9:=Tryz.underlying9
 a9:=isAgg9
 z9:=sizeOf9
 v9:=Tryz.zeroValue9
 t22:=Tryz.underlying147
 a22:=Tryz.isAgg147
 z22:=Tryz.sizeOf147
 v22:=Tryz.zeroValue147
 t25:=Tryz.underlying167
 a25:=Tryz.isAgg167
 z25:=Tryz.sizeOf167
 v25:=Tryz.zeroValue167
 t39:=Tryz.underlying72
 a39:=isAgg72
 z39:=Tryz.sizeOf72
 v39:=Tryz.zeroValue72
 t45:=Tryz.underlying180
 a45:=Tryz.isAgg180
 z45:=Tryz.sizeOf180
 v45:=Tryz.zeroValue180
 t46:=Tryz.underlying181
 a46:=Tryz.isAgg181
 z46:=Tryz.sizeOf181
 v46:=Tryz.zeroValue181
 t50:=Tryz.underlying116
 a50:=Tryz.isAgg116
 z50:=Tryz.sizeOf116
 v50:=Tryz.zeroValue116
 t53:=Tryz.underlying29
 a53:=isAgg29
 z53:=Tryz.sizeOf29
 v53:=Tryz.zeroValue29
 t55:=Tryz.underlying53
 a55:=isAgg53
 z55:=Tryz.sizeOf53
 v55:=Tryz.zeroValue53
 t66:=Tryz.underlying203
 a66:=Tryz.isAgg203
 z66:=Tryz.sizeOf203
 v66:=Tryz.zeroValue203
 t70:=Tryz.underlying207
 a70:=Tryz.isAgg207
 z70:=Tryz.sizeOf207
 v70:=Tryz.zeroValue207
 t76:=Tryz.underlying216
 a76:=Tryz.isAgg216
 z76:=Tryz.sizeOf216
 v76:=Tryz.zeroValue216
 t77:=Tryz.underlying217
 a77:=Tryz.isAgg217
 z77:=Tryz.sizeOf217
 v77:=Tryz.zeroValue217}
end Go.Proofs
namespace Go.Proofs.YtgboehkdijjnkaaGreatDoor
open Go.RowKit
open _root_.Array (length_toList)
open Go.BinOp (eql)
open _root_.Bool (not_eq_true')
open Go.Calls (mono)
open Go.Fence (wide)
open _root_.Function (comp_def)
open Go.IntKind (i64 u32 u64 wrap)
open _root_.List (append_nil eq_nil_of_length_eq_zero ext_getElem? find?_some flatMap_cons flatten flatten_cons getElem?_cons_succ getElem?_cons_zero getElem?_eq_getElem getElem?_eq_none getElem?_map getElem?_take length length_append length_cons length_map length_mergeSort length_nil map_append map_cons map_map map_nil mem_cons mem_cons_of_mem mem_cons_self mem_map mem_map_of_mem mem_of_getElem? mem_singleton nodup_nil not_mem_nil setIfInBounds_toArray set_cons_succ set_cons_zero take_length take_succ_cons take_zero zipWith)
open _root_.Nat (add_mul beq beq_refl le_refl le_trans not_lt_zero zero_add zero_le)
open _root_.Option (getD_some map_some)
open Go.Sort (grow)
open Go.Proofs.Tryz (func100 func117 func118 func142 func143 func83 func92 isAgg0 isAgg29 isAgg3 isAgg4 isAgg5 isAgg53 isAgg72 isAgg9 prog sizeOf0 sizeOf3 sizeOf4 sizeOf5 sizeOf9)
open Go.World (cell?)
section
open Go.RowKit Go.Sort Go.Shelf
theorem qf (x y:Int × Int × Int):ltOf fg x y=true ↔ y.2.2<x.2.2∨(y.2.2=x.2.2∧(x.2.1<y.2.1∨(x.2.1=y.2.1∧x.1<y.1))):=by
 unfold ltOf fg
 simp only [lf,dt]
 by_cases a1:y.2.2<x.2.2
 ·simp [a1]
 ·by_cases a2:x.2.2<y.2.2
  ·simp [a1,a2];omega
  ·by_cases b1:x.2.1<y.2.1
   ·simp [a1,a2,b1];omega
   ·by_cases b2:y.2.1<x.2.1
    ·simp [a1,a2,b1,b2];omega
    ·by_cases c1:x.1<y.1
     ·simp [a1,a2,b1,b2,c1]
      try omega
     ·by_cases c2:y.1<x.1
      ·simp [a1,a2,b1,b2,c1,c2]
      ·simp [a1,a2,b1,b2,c1,c2]
theorem ic (x y:Int × Int × Int):ltOf fg x y=false ↔ ¬(y.2.2<x.2.2∨(y.2.2=x.2.2∧(x.2.1<y.2.1∨(x.2.1=y.2.1∧x.1<y.1)))):=by
 rw [←qf x y]
 simp
theorem Er:SWO (ltOf fg):=by
 refine ⟨λx=> ?_,λx y z h1 h2=> ?_,λx y z h1 h2=> ?_⟩
 ·rw [ic];omega
 ·rw [qf] at*;omega
 ·rw [ic] at*;omega
theorem AV (x y:Int × Int × Int)(h1:ltOf fg x y=false)(h2:ltOf fg y x=false):x=y:=by
 rw [ic] at h1 h2
 obtain ⟨a,b,c⟩:=x
 obtain ⟨a',b',c'⟩:=y
 simp only at h1 h2
 have:a=a'∧b=b'∧c=c':=by omega
 obtain ⟨rfl,rfl,rfl⟩:=this
 rfl
def fh (x:Int × Int × Int):List Value:= [.int .i64 x.1,.int .i64 x.2.1,.int .u64 x.2.2]
theorem Et (blk off size:Nat)(w:World):CmpLays prog 92 #[] fh 3 fg blk off size w:=
 λ_ _ _ _ x y=>(GD x y _).mono λ_ _ ⟨he,hg⟩=>⟨he,hg.grow⟩
def dc (l:List (Int × Int × Int)):List (Int × Int × Int):=l.mergeSort λx y=> !(ltOf fg) y x
theorem uZ (l:List (Int × Int × Int)):(dc l).length=l.length:=length_mergeSort l
theorem iy (x:Int × Int × Int):(fh x).length=3:=rfl
theorem u4 (x:Int × Int × Int):∀v∈fh x,v.oneCell'=true:=by
 intro v hv
 simp [fh] at hv
 rcases hv with rfl | rfl | rfl<;>rfl
end
section
open Go.RowKit Go.Sort Go.Shelf
def ba (key:Int):Nat→List Bk→List Bk
 |_,[]=> []
 |k,b::r=>if 0<b.2.2 then ((k:Int),b.1,bx key b.1 b.2.2)::ba key (k+1) r else ba key (k+1) r
theorem qM (key:Int):∀(l:List Bk) (k:Nat) (b:Bk),ba key k (l++ [b])=ba key k l++(if 0<b.2.2 then [(((k+l.length:Nat):Int),b.1,bx key b.1 b.2.2)] else [])
 |[],k,b=>by simp [ba]
 |a::r,k,b=>by
  have h:=qM key r (k+1) b
  simp only [List.cons_append,ba,h,length_cons]
  have e:k+1+r.length=k+(r.length+1):=by omega
  rw [e]
  split<;>simp
theorem nJ (key:Int):∀(l:List Bk) (k:Nat),(ba key k l).length≤l.length
 |[],_=>le_refl _
 |a::r,k=>by
  have h:=nJ key r (k+1)
  simp only [ba]
  split<;>simp<;>omega
theorem AW (key:Int)(l:List Bk)(j:Nat)(b:Bk)(hb:l[j]?=some b):ba key 0 (l.take (j+1))=ba key 0 (l.take j)++(if 0<b.2.2 then [((j:Int),b.1,bx key b.1 b.2.2)] else []):=by
 have hj:=(List.getElem?_eq_some_iff.1 hb).1
 have e:l.take (j+1)=l.take j++ [b]:=by rw [List.take_add_one,hb];rfl
 rw [e,qM]
 have:(l.take j).length=j:=by simp;omega
 rw [this];simp
def ju (pr s d sp dp:Int):Int:=kH [u64.wrap pr,u64.wrap s,u64.wrap d,u64.wrap sp,u64.wrap dp]
theorem Ll (pr s d sp dp:Int):VCalls prog 89 [JO pr s d sp dp] ⟨[],[]⟩ λx T'=>x=.val (.int .u64 (ju pr s d sp dp))∧T'=⟨[],[]⟩:=
 VCalls.of_grT (us:= [.agg #[.int .i64 pr,.int .u32 s,.int .u32 d,.int .i64 sp,.int .i64 dp]]) rfl (λw=>Lg pr s d sp dp _ _ _ _ _ rfl rfl rfl rfl rfl w) _
theorem H0 (key id wt:Int):VCalls prog 90 [.val (.int .u64 key),.val (.int .i64 id),.val (.int .i64 wt)] ⟨[],[]⟩ λx T'=>x=.val (.int .u64 (bx key id wt))∧T'=⟨[],[]⟩:=
 VCalls.of_gr (us:= [_,_,_]) (λw=>Hc key id wt w) _
theorem kf (L:List Bk):(L.map bs).flatten=(L.flatMap fh).map .val:=by
 induction L with
 |nil=>rfl
 |cons a L ih=>rw [map_cons,flatten_cons,ih,flatMap_cons,map_append];rfl
end
section
open Go.RowKit
def FreeT (x:TV):Prop:=∀g w g' w' u,(∀id b,g.obj id=some b→g'.obj id=some b)→VR g w x u→VR g' w' x u
theorem FreeT.val (v:Value):FreeT (.val v):=λ_ _ _ _ _ _ h=>by cases h;exact .val _
theorem FreeT.map (id:Nat):FreeT (.map id):=λ_ _ _ _ _ ho h=>by cases h with | map h=>exact .map (ho _ _ h)
theorem FreeT.agg {cs:List TV}(hc:∀c∈cs,FreeT c):FreeT (.agg cs):=λg w g' w' u ho h=>by
 cases h with
 |agg hl hv=>exact .agg hl λj x u hx hu=>hc x (mem_of_getElem? hx) g w g' w' u ho (hv j x u hx hu)
theorem nK {g g':Gh}{w w':World}{cs:List TV}{us:List Value}(hc:∀c∈cs,FreeT c)(ho:∀id b,g.obj id=some b→g'.obj id=some b)(h:VRs g w cs us):VRs g' w' cs us:=
 ⟨h.1,λj x u hx hu=>hc x (mem_of_getElem? hx) g w g' w' u ho (h.2 j x u hx hu)⟩
def vG:VO→Prop
 | .cells cs=>∀c∈cs,FreeT c
 | .row cs=>∀c∈cs,FreeT c
 | .map _ _ es _=>∀e∈es,FreeT e.2.1
 | .defd=>True
 | .gone=>True
 |_=>False
theorem GE {g g':Gh}{w:World}{b:Nat}{o:VO}(ho:∀id b,g.obj id=some b→g'.obj id=some b)(hf:vG o)(h:OR g w b o):OR g' w b o:=by
 cases o with
 |cells cs=>obtain ⟨us,t,q1,q2,q3⟩:=h;exact ⟨us,t,q1,nK hf ho q2,q3⟩
 |row cs=>obtain ⟨us,t,q1,q2,q3,q4⟩:=h;exact ⟨us,t,q1,q2,nK hf ho q3,q4⟩
 |map sh look es ck=>
  obtain ⟨vs,q1,q2,q3,q4,q5,q6,q7⟩:=h
  refine ⟨vs,q1,q2,nK (λc hc=> ?_) ho q3,q4,q5,q6,q7⟩
  obtain ⟨e,he,rfl⟩:=mem_map.1 hc
  exact hf e he
 |iter m since seen stepped=>exact hf.elim
 |siter s pos=>exact hf.elim
 |loop st pend σ2 ps asg body=>exact hf.elim
 |defd=>exact h
 |gone=>trivial
theorem H1 {g0 g:Gh}{w0 w:World}{T0 T:VT}(e0:Evo g0 w0 g w)(r0:RW g0 T0 w0)(r:RW g T w){k e size:Nat}{es:List (List TV)}{u:Value}(hk:T0.tails.length≤k)(hT:T.tails[k]?=some (e,size,true))(hn:es.length=e)(hpos:0<e)
  (hs:VR g w (.vec size es (.tail k e)) u) (hes:∀c∈es.flatten,FreeT c) (hob:∀o∈T.objs,vG o) (hol:T0.objs.length≤T.objs.length):
  ∃g2,Evo g0 w0 g2 w∧RW g2 ⟨T.objs++ [.row es.flatten],T.tails.set k (e+1,size,false)⟩ w∧VR g2 w (.row size T.objs.length 0 es.length) u:=by
 obtain ⟨x,hxt,hxe,hxz,hxx⟩:=r.tl k _ hT
 simp only at hxe hxz
 obtain ⟨hxz,hxb⟩:=hxz
 have hes0:0<es.length:=by omega
 obtain ⟨b,o,c,us,rfl,a1,a2,a3,a4,a5,a6,a7,a8⟩:∃b o c us,u=.slice (some ⟨b,o,none⟩) es.length c∧es.length≤c∧c≤maxLen∧(∀e∈es,e.length=size)∧TokOk g w (.tail k e) size es.length b o c∧VRs g w es.flatten us∧(∀j,j<es.flatten.length→g.st b (o+j))∧(∀(j:Nat) v,us[j]?=some v→w.cell? ⟨b,o+j,none⟩=some v)∧∀u∈us,u.oneCell'=true:=by
  rcases hs.vec_inv with ⟨_,he,_⟩ | h | ⟨_,_,he,_⟩
  ·rw [he] at hes0;simp at hes0
  ·exact h
  ·rw [he] at hes0;simp at hes0
 obtain ⟨y,q1,q2,q3,_,q5⟩:=a4
 rw [hxt] at q1;injection q1 with q1;subst q1
 obtain ⟨_,q6⟩:=q5 hxe hxb
 obtain ⟨hxo,p1,p2,p3⟩:=q6 (by omega) (by omega)
 subst p1 p2
 obtain ⟨⟨cur,hblk,hcur⟩,hff,hfl,hlo,hnfr⟩:=r.own k x hxt hxo (by omega)
 have hw0:w0.heap.size≤x.b:=le_trans (e0.tnew k x (r0.tout k hk) hxt) hlo
 obtain ⟨g2,hg2⟩:∃g2:Gh,g2={g with obj:=λi=>if i=T.objs.length then some x.b else g.obj i,tail:=λi=>if i=k then some {x with lim:=x.f,own:=false,born:=false,e:=e+1} else g.tail i,st:=λb o=>g.st b o∧b≠x.b}:=⟨_,rfl⟩
 have gobj:∀id,id≠T.objs.length→g2.obj id=g.obj id:=λid h=>by rw [hg2];simp [h]
 have gnew:g2.obj T.objs.length=some x.b:=by rw [hg2];simp
 have oeq:∀id b,g.obj id=some b→g2.obj id=some b:=λid b h=>by
  rw [gobj id]; · exact h
  ·rintro rfl;rw [r.out _ (le_refl _)] at h;cases h
 have gfr:g2.fr=g.fr:=by rw [hg2]
 have gst:∀b o,g2.st b o→g.st b o∧b≠x.b:=λb o h=>by rw [hg2] at h;exact h
 have gtk:g2.tail k=some {x with lim:=x.f,own:=false,born:=false,e:=e+1}:=by rw [hg2];simp
 have gtn:∀j,j≠k→g2.tail j=g.tail j:=λj hj=>by rw [hg2];simp [hj]
 have hst0:∀b o,g0.st b o→b≠x.b:=λb o h hb=>by
  obtain ⟨u,hu⟩:=Option.isSome_iff_exists.1 (r0.st b o h)
  have:=gm hu
  simp at this;omega
 have ev:Evo g0 w0 g2 w:=by
  refine ⟨e0.os,e0.tape,e0.output,e0.size,λid b hb=>oeq id b (e0.obj id b hb),λb o h=>⟨?_,(e0.st b o h).2⟩,by rw [gfr];exact e0.fr,e0.frb,λb o hb h=>e0.frs b o hb (gst b o h).1,λj y hy=> ?_,λj y h1 h2=> ?_,e0.csz⟩
  ·rw [hg2];exact ⟨(e0.st b o h).1,hst0 b o h⟩
  ·have hj:j≠k:=by rintro rfl;rw [r0.tout j hk] at hy;cases hy
   rw [gtn j hj];exact e0.tail j y hy
  ·by_cases hj:j=k
   ·subst hj;rw [gtk] at h2;injection h2 with h2;subst h2;exact e0.tnew j x h1 hxt
   ·rw [gtn j hj] at h2;exact e0.tnew j y h1 h2
 have hobjne:∀(id:Nat) oo b,T.objs[id]?=some oo→oo.live=true→g.obj id=some b→b≠x.b:=λid oo b h1 h2 h3 hb=>r.tobj id oo b k x h1 h2 h3 hxt (.inr ⟨hxo,by omega,hb.symm⟩)
 have hasle:∀b,({x with lim:=x.f,own:=false,born:=false,e:=e+1}:Tl).has b→False:=λb h=>by
  rcases h with ⟨o,_,h1,h2⟩ | ⟨h,_⟩
  ·simp only at h1 h2;omega
  ·cases h
 have hob2:∀(id:Nat) oo,(T.objs++ [.row es.flatten])[id]?=some oo→(id<T.objs.length∧T.objs[id]?=some oo)∨(id=T.objs.length∧oo=.row es.flatten):=λid oo h=>by
  rcases Nat.lt_trichotomy id T.objs.length with h1 | h1 | h1
  ·rw [List.getElem?_append_left h1] at h;exact .inl ⟨h1,h⟩
  ·subst h1;simp at h;exact .inr ⟨rfl,h.symm⟩
  ·rw [getElem?_eq_none (by simp;omega)] at h;cases h
 have hfl3:=bp a3
 have hcl:cur.toList.length=c*size:=by rw [length_toList,hcur,p3]
 have hul:us.length=es.length*size:=by rw [a5.1,hfl3]
 have hle2:es.length*size≤c*size:=Nat.mul_le_mul_right _ a1
 have htake:cur.toList.take es.flatten.length=us:=by
  rw [hfl3]
  apply ext_getElem?
  intro j
  rw [getElem?_take]
  split
  ·rename_i hj
   have h9:us[j]?=some us[j]:=getElem?_eq_getElem (by omega)
   have h10:=a7 j us[j] h9
   rw [h9]
   simpa [cell?,hblk] using h10
  ·rename_i hj;rw [getElem?_eq_none (by omega)]
 have rw2:RW g2 ⟨T.objs++ [.row es.flatten],T.tails.set k (e+1,size,false)⟩ w:=by
  refine ⟨?_,?_,?_,?_,?_,?_,?_,?_,?_,?_,?_,?_⟩
  ·intro id oo h hl
   rcases hob2 id oo h with ⟨h0,h1⟩ | ⟨rfl,rfl⟩
   ·obtain ⟨b,h3,h4,h5,h6⟩:=r.obj id oo h1 hl
    exact ⟨b,by rw [gobj id (by omega)];exact h3,GE oeq (hob oo (mem_of_getElem? h1)) h4,by rw [gfr];exact h5,λo hs=>h6 o (gst b o hs).1⟩
   ·refine ⟨x.b,gnew,⟨cur.toList,x.ty,by simpa using hblk,by rw [hfl3,hcl];exact hle2,?_,λu hu=> ?_⟩,by rw [gfr];exact hnfr,λo hs=>(gst _ o hs).2 rfl⟩
    ·rw [htake];exact nK hes oeq a5
    ·rw [htake] at hu;exact a8 u hu
  ·intro i j oi oj b hi li hj lj b1 b2
   rcases hob2 i oi hi with ⟨h0,h1⟩ | ⟨rfl,rfl⟩
   ·rw [gobj i (by omega)] at b1
    rcases hob2 j oj hj with ⟨h2,h3⟩ | ⟨rfl,rfl⟩
    ·rw [gobj j (by omega)] at b2
     exact r.inj i j oi oj b h1 li h3 lj b1 b2
    ·rw [gnew] at b2;injection b2 with b2;exact absurd b2.symm (hobjne i oi b h1 li b1)
   ·rw [gnew] at b1;injection b1 with b1
    rcases hob2 j oj hj with ⟨h2,h3⟩ | ⟨rfl,rfl⟩
    ·rw [gobj j (by omega)] at b2
     exact absurd b1.symm (hobjne j oj b h3 lj b2)
    ·rfl
  ·intro id hid
   simp only [length_append,length_cons,length_nil] at hid
   rw [gobj id (by omega)];exact r.out id (by omega)
  ·intro b o h;exact r.st b o (gst b o h).1
  ·intro b hb;rw [gfr] at hb;exact r.fr b hb
  ·intro j p h
   simp only [List.getElem?_set] at h
   split at h
   ·rename_i hj;subst hj
    split at h
    ·injection h with h;subst h
     exact ⟨_,gtk,rfl,⟨hxz,rfl⟩,λb o hin=>absurd (.inl ⟨o,hin⟩) (hasle b)⟩
    ·cases h
   ·rename_i hj
    obtain ⟨y,q1,q2,q3,q4⟩:=r.tl j p h
    have hj':j≠k:=λh=>hj h.symm
    refine ⟨y,by rw [gtn j hj'];exact q1,q2,q3,λb o hin=> ?_⟩
    obtain ⟨s1,s2,s3,s4⟩:=q4 b o hin
    exact ⟨s1,s2,λhs=>s3 (gst b o hs).1,by rw [gfr];exact s4⟩
  ·intro j hj
   simp only [List.length_set] at hj
   have hlt:=kj r hxt
   rw [gtn j (by omega)];exact r.tout j hj
  ·intro i j y z b h1 h2 i1 i2
   by_cases hi:i=k
   ·subst hi;rw [gtk] at h1;injection h1 with h1;subst h1;exact (hasle b i1).elim
   ·by_cases hj:j=k
    ·subst hj;rw [gtk] at h2;injection h2 with h2;subst h2;exact (hasle b i2).elim
    ·rw [gtn i hi] at h1;rw [gtn j hj] at h2;exact r.tinj i j y z b h1 h2 i1 i2
  ·intro i oi b j y hi li b1 hy hin
   by_cases hj:j=k
   ·subst hj;rw [gtk] at hy;injection hy with hy;subst hy;exact (hasle b hin).elim
   ·rw [gtn j hj] at hy
    rcases hob2 i oi hi with ⟨h0,h1⟩ | ⟨rfl,rfl⟩
    ·rw [gobj i (by omega)] at b1;exact r.tobj i oi b j y h1 li b1 hy hin
    ·rw [gnew] at b1;injection b1 with b1;subst b1
     exact hj (r.tinj j k y x x.b hy hxt hin (.inr ⟨hxo,by omega,rfl⟩))
  ·intro j y hy d1 d2
   by_cases hj:j=k
   ·subst hj;rw [gtk] at hy;injection hy with hy;subst hy;cases d1
   ·rw [gtn j hj] at hy
    obtain ⟨s1,s3,s4,s5,s6⟩:=r.own j y hy d1 d2
    exact ⟨s1,s3,s4,s5,by rw [gfr];exact s6⟩
  ·intro j y hy d1
   by_cases hj:j=k
   ·subst hj;rw [gtk] at hy;injection hy with hy;subst hy;rcases d1 with d1 | d1<;>cases d1
   ·rw [gtn j hj] at hy;exact r.own0 j y hy d1
  ·intro j y hy
   by_cases hj:j=k
   ·subst hj;rw [gtk] at hy;injection hy with hy;subst hy;exact r.tlo j x hxt
   ·rw [gtn j hj] at hy;exact r.tlo j y hy
 refine ⟨g2,ev,rw2,?_⟩
 have:=VR.row (g:=g2) (w:=w) (size:=size) (id:=T.objs.length) (off:=0) (n:=es.length) (c:=c) gnew (by have:=r.own k x hxt hxo (by omega);exact (Array.getElem?_eq_some_iff.1 hblk).1) a1 a2 (by rw [aY hblk,hcur,p3];simp)
 simpa using this
theorem AX {n slot:Nat}{x:TV}{g:Gh}{w:World}{us:List Value}{u:Value}(hl:us.length=n)(hu:us[slot]?=some u)(hx:VR g w x u):VRs g w (ax n [slot] [x]) us:=by
 refine ⟨by simp [ax,jr,gT,hl],λj y v hy hv=> ?_⟩
 simp only [ax,jr,gT,map_map,getElem?_map,Option.map_eq_some_iff] at hy
 obtain ⟨i,hi,rfl⟩:=hy
 have e:i=j:=by
  have:=(List.getElem?_eq_some_iff.1 hi).2
  simpa using this.symm
 subst e
 simp only [Function.comp_apply,p9]
 cases hb:beq slot i with
 |true=>
  have:=Nat.eq_of_beq_eq_true hb
  subst this
  rw [hu] at hv;injection hv with hv;subst hv
  exact hx
 |false=>exact .dead _
section
variable {P:Program}{G:aC}
def tV (n:Nat)(keys:List Nat)(ad:List (Nat × Nat))(vs0:List TV)(T0 T1:VT)(slot k size:Nat)(es:List (List TV)):bH:=λrd ro σ T D K=>(rd=none∧ro=0∧D= []∧qd ad σ∧(ey ad σ T).2=T0∧beq σ.length n=true∧pick keys (ey ad σ T).1=vs0∧Nat.ble T.tails.length k=true)∧
 K .normal (ax n [slot] [.row size T1.objs.length 0 es.length]) ⟨T1.objs++ [.row es.flatten],T1.tails.set k (es.length+1,size,false)⟩ []
theorem sN {c:Code}{n:Nat}{keys:List Nat}{ad:List (Nat × Nat)}{vs0 vs1:List TV}{T0 T1:VT}{slot k size:Nat}{es:List (List TV)}(hs:(ax n keys vs1)[slot]?=some (.vec size es (.tail k es.length)))(hT:T1.tails[k]?=some (es.length,size,true))(hpos:0<es.length)
  (hes:∀c∈es.flatten,FreeT c) (hob:∀o∈T1.objs,vG o) (h:∀K,K .normal (ax n keys vs1) T1 []→VWx P G none 0 c (ax n keys vs0) T0 [] K):
  ∀rd ro σ T D K,tV n keys ad vs0 T0 T1 slot k size es rd ro σ T D K→VWx P G rd ro c σ T D K:=by
 rintro rd ro σ T D K ⟨⟨h1,h2,h3,h4,h5,h6,h7,hk⟩,hK⟩
 have hl:=dy (n:=n) (keys:=keys) (ad:=ad) (vs0:=vs0) (T0:=T0) (R:=λK=>K .normal (ax n keys vs1) T1 []) h rd ro σ T D (λe σ' T' D'=>e=.normal∧σ'=ax n keys vs1∧T'=T1∧D'= []) ⟨⟨h1,h2,h3,h4,h5,h6,h7⟩,rfl,rfl,rfl,rfl⟩
 subst h1 h2 h3
 have hn:=Nat.eq_of_beq_eq_true h6
 intro r g w a rw0 hG hσ hd hD hr
 refine wpIn_mono (hl r g w a rw0 hG hσ hd hD hr) ?_
 rintro e a' w' ⟨g',σ',T',D',⟨rfl,rfl,rfl,rfl⟩,e',r',hσ',hd',_,fx⟩
 obtain ⟨u,hu,hv⟩:=hσ'.at hs
 obtain ⟨g2,ev,rw2,v2⟩:=H1 e' rw0 r' (Nat.le_of_ble_eq_true hk) hT rfl hpos hv hes hob fx.len
 refine ⟨g2,_,_,[],hK,ev,rw2,AX ?_ hu v2,hd',(λid hid=>by cases hid),⟨?_,λi hi=>absurd hi (not_lt_zero i),λi o b hi=>absurd hi (not_lt_zero i)⟩⟩
 ·rw [hσ'.1];simp [ax,jr,gT]
 ·have:=fx.len
  simp only [length_append,length_cons,length_nil];omega
theorem mX (size:Nat):∀{es:List (List TV)},(∀e∈es,e.length=size)→dn size es.length es.flatten=es
 |[],_=>rfl
 |e::es,h=>by
  have h1:e.length=size:=h e mem_cons_self
  have h2:=mX size (es:=es) λe he=>h e (mem_cons_of_mem _ he)
  simp only [length_cons,dn,flatten_cons]
  rw [List.take_left' h1,List.drop_left' h1,h2]
theorem kg {T:VT}{size id:Nat}{es:List (List TV)}(ho:T.objs[id]?=some (.row es.flatten))(hz:∀e∈es,e.length=size):ci T size (.row size id 0 es.length)=some es:=by
 have hl:=bp hz
 have e1:((es.flatten.drop (0*size)).take (es.length*size))=es.flatten:=by
  rw [Nat.zero_mul,List.drop_zero,←hl,take_length]
 simp only [ci,ho]
 rw [e1,mX size hz,beq_refl,zero_add,hl,Nat.ble_eq_true_of_le (le_refl _)]
 rfl
theorem VCx.freeze {f:FuncId}{xs:List TV}{T:VT}{size:Nat}{es:List (List TV)}{Q:VT→Prop}(h:VCx P G 0 f xs T λx T'=>∃id off n,x=.row size id off n∧ci T' size (.row size id off n)=some es∧Q (T'.kill id)):
  VCx P G 0 f xs T λx T'=>x=.vec size es .none∧Q T':=by
 intro g w us rw0 hG hx
 refine Calls.mono (h g w us rw0 hG hx) ?_
 rintro e w' ⟨v,x,g',T',he,⟨id,off,n,rfl,h1,hq⟩,e',r',hv,hfx⟩
 obtain ⟨g2,e2,r2,v2⟩:=nC r' h1 hv
 refine ⟨v,_,g2,_,he,⟨rfl,hq⟩,e'.trans e2,r2,v2,⟨?_,λi hi=>absurd hi (not_lt_zero i),λi o b hi=>absurd hi (not_lt_zero i)⟩⟩
 have:=hfx.len
 simp only [VT.kill,List.length_set];exact this
end
end
section
open Go.RowKit
abbrev j3:=76
abbrev pn:=92
abbrev H2:=89
abbrev KM:=90
abbrev zc:=91
abbrev Cn:=39
def bV (p s d sp dp:Int):List TV:= [.val (.int .i64 p),.val (.int .u32 s),.val (.int .u32 d),.val (.int .i64 sp),.val (.int .i64 dp)]
def AY (i a c:Int):List TV:= [.val (.int .i64 i),.val (.int .u32 a),.val (.int .i64 c)]
def xr (k i z:Int):List TV:= [.val (.int .i64 k),.val (.int .i64 i),.val (.int .u64 z)]
def Eu (fl:List TV)(key:Int):aZ:=fu [.agg fl] (.val (.int .u64 key))
def AZ (key:Int)(sc:Int→Int→Int):aZ:=λ_ ys T K=>match ys with
 |[.val (.int .u64 k),.val (.int .i64 i),.val (.int .i64 w)]=>k=key∧K (.val (.int .u64 (sc i w))) T
 |_=>aG 85 default ys
def KN (T1 T2:VT)(n:Nat):aZ:=λro ys T K=>(ro=0∧ys= [.row 3 1 0 n,.fn (.func pn) [] []]∧T=T1)∧K (.val (.tuple #[])) T2
def H3:aZ:=λro ys T K=>(ro=0∧ys= [.vec 3 [] (.tail 0 0),.fn (.func pn) [] []])∧K (.val (.tuple #[])) T
def u6:List Nat:= [1,5,6,11,12,13]
def pp (key:Int)(B L:List (List TV))(j:Int):List TV:= [.vec 3 B .none,.val (.int .u64 key),.vec 3 L (.tail 0 L.length),.vec 3 B .none,.val (.int .i64 B.length),.val (.int .i64 j)]
def qN (fl:List TV)(n:Nat):VT:=⟨[.cells fl],[(n,3,true)]⟩
def nL (fl:List TV)(n:Nat)(cs:List TV):VT:=⟨[.cells fl,.row cs],[(n+1,3,false)]⟩
def Lm (fl:List TV)(key:Int)(B:List (List TV))(c0:Code):Nat→Option (bH × Code):=di [(0,gX 38 u6 [(6,3)] (pp key B [] 0) (qN fl 0) λK=>K .normal (ax 38 u6 (pp key B [] B.length)) (qN fl 0) [],c0)]
def H4 (fl:List TV)(key:Int)(B L:List (List TV))(c0:Code):Nat→Option (bH × Code):=di [(0,tV 38 u6 [(6,3)] (pp key B [] 0) (qN fl 0) (qN fl L.length) 6 0 3 L,c0)]
theorem H5 (p s d sp dp key:Int)(B:List (List TV))(Q:TV→VT→Prop):aK prog ae (aE [(H2,Eu (bV p s d sp dp) key),(zc,H3)]) bv 300 (Lm (bV p s d sp dp) key B (av prog j3 0)) 0 j3 [.agg (bV p s d sp dp),.vec 3 B .none] jc Q=
 ((@Eq (List TV) (o6 p s d sp dp) (o6 p s d sp dp))∧
 ((av prog j3 (0:Nat)=av prog j3 (0:Nat))∧
 (((@Eq (Option Nat) .none .none)∧
 ((@Eq (Nat) 0 0)∧
 ((@Eq (List Nat) [] [])∧
 (((@Eq (Option TV) (.some dU) (.some dU))∧
 True)∧
 ((@Eq (VT) (tN p s d sp dp [(0,(3,true))]) (tN p s d sp dp [(0,(3,true))]))∧
 ((@Eq (Bool) true true)∧
 (@Eq (List TV) (AN B key B (↑(length B):Int)) (AN B key B (↑(length B):Int)))))))))∧
 (((@Eq (Nat) 0 0)∧
 (@Eq (List TV) [jW,(.fn (.func 92) [] [])] [jW,(.fn (.func 92) [] [])]))∧
 Q jW (tN p s d sp dp [(0,(3,true))]))))):=by kernel_rfl
theorem H6 (p s d sp dp key:Int)(B L LS:List (List TV))(Q:TV→VT→Prop):aK prog ae (aE [(H2,Eu (bV p s d sp dp) key),(zc,KN (nL (bV p s d sp dp) L.length L.flatten) (nL (bV p s d sp dp) L.length LS.flatten) L.length)]) bv 300 (H4 (bV p s d sp dp) key B L (av prog j3 0)) 0 j3 [.agg (bV p s d sp dp),.vec 3 B .none] jc Q=
 ((@Eq (List TV) (o6 p s d sp dp) (o6 p s d sp dp))∧
 ((av prog j3 (0:Nat)=av prog j3 (0:Nat))∧
 (((@Eq (Option Nat) .none .none)∧
 ((@Eq (Nat) 0 0)∧
 ((@Eq (List Nat) [] [])∧
 (((@Eq (Option TV) (.some dU) (.some dU))∧
 True)∧
 ((@Eq (VT) (tN p s d sp dp [(0,(3,true))]) (tN p s d sp dp [(0,(3,true))]))∧
 ((@Eq (Bool) true true)∧
 ((@Eq (List TV) (AN B key B (↑(length B):Int)) (AN B key B (↑(length B):Int)))∧
 (@Eq (Bool) true true))))))))∧
 (((@Eq (Nat) 0 0)∧
 ((@Eq (List TV) [(.row 3 1 0 (length L)),(.fn (.func 92) [] [])] [(.row 3 1 0 (length L)),(.fn (.func 92) [] [])])∧
 (@Eq (VT) (Ef p s d sp dp (flatten L) [((length L+(1:Nat)),(3,false))]) (Ef p s d sp dp (flatten L) [((length L+(1:Nat)),(3,false))]))))∧
 Q (.row 3 1 0 (length L)) (Ef p s d sp dp (flatten LS) [((length L+(1:Nat)),(3,false))]))))):=by kernel_rfl
theorem Co (p s d sp dp key i a c:Int)(sc:Int→Int→Int)(B L:List (List TV))(j:Nat)(Q:Exit→List TV→VT→List Nat→Nat→Prop):vx prog ae (aE [(KM,AZ key sc)]) (bw [(999998,.dead,none),(16,.elt (AY i a c),none),(33,.vec 3 (L++ [xr j i (sc i c)]) (.tail 0 (L.length+1)),some λT=>{T with tails:= [(L.length+1,3,true)]})]) 300 bq none 0 (dh prog j3 0) (ax 38 u6 (pp key B L j)) (qN (bV p s d sp dp) L.length) [] (dl u6 Q)=
 (bif decide ((↑j:Int)<(↑(length B):Int))
 then (aI prog (λ_=>.none) (.indexAddr 22 (.tmp 11) (.tmp 13)) [(11,(dE B)),(13,(ar (↑j:Int)))] (tM i a c)∧
 (bif decide (c>(0:Int))
 then ((@Eq (Int) (key) (key))∧
 (aN prog (λ_=>.none) 0 (AM p s d sp dp i a c [((length L),(3,true))]) (.call ⟨(.builtin .append),#[(.tmp 21),(.tmp 32)],#[147,147]⟩) [(21,(gg L (length L))),(32,(.vec 3 [[(.val (.int .i64 ((↑j:Int)))),(.val (.int .i64 (i))),(.val (.int .u64 (sc i c)))]] .full))] (gg (L++ [xr (↑j:Int) i (sc i c)]) (length L+(1:Nat))) (AM p s d sp dp i a c [((length L+(1:Nat)),(3,true))])∧
 Q .normal [(dE B),(uT key),(gg (L++ [xr (↑j:Int) i (sc i c)]) (length L+(1:Nat))),(dE B),(ar (↑(length B):Int)),(ar (wrap i64 ((↑j:Int)+(1:Int))))] (AM p s d sp dp i a c [((length L+(1:Nat)),(3,true))]) [] 38))
 else Q .normal [(dE B),(uT key),(gg L (length L)),(dE B),(ar (↑(length B):Int)),(ar (wrap i64 ((↑j:Int)+(1:Int))))] (AM p s d sp dp i a c [((length L),(3,true))]) [] 38))
 else Q (.exit 0) [(dE B),(uT key),(gg L (length L)),(dE B),(ar (↑(length B):Int)),(ar (↑j:Int))] (tN p s d sp dp [((length L),(3,true))]) [] 38):=by kernel_rfl
theorem H7 (p s d sp dp:Int)(B:List (List TV))(Q:TV→VT→Prop):aK prog ae (aE [(j3,fu [.agg (bV p s d sp dp),.vec 3 B .none] (.vec 3 [] .none))]) bv 300 bq 0 Cn [.agg (bV p s d sp dp),.vec 3 B .none] jc Q=
 ((@Eq (List TV) (tL p s d sp dp B) (tL p s d sp dp B))∧
 Q Hs ⟨[(wY p s d sp dp),Hr],[]⟩):=by kernel_rfl
theorem H8 (p s d sp dp k i z i' a' c':Int)(B L:List (List TV))(Q:TV→VT→Prop):aK prog ae (aE [(j3,fu [.agg (bV p s d sp dp),.vec 3 B .none] (dE (xr k i z::L)))]) (bw [(16,.elt (xr k i z),none),(19,.elt (AY i' a' c'),none)]) 300 bq 0 Cn [.agg (bV p s d sp dp),.vec 3 B .none] jc Q=
 ((@Eq (List TV) (tL p s d sp dp B) (tL p s d sp dp B))∧
 (aI prog (λ_=>.none) (.indexAddr 147 (.tmp 15) (.const (.int .i64 0))) [(15,(dE ([[(.val (.int .i64 (k))),(.val (.int .i64 (i))),(.val (.int .u64 (z)))]]++L)))] (.elt [(ar k),(ar i),(uT z)])∧
 (aI prog (λ_=>.none) (.indexAddr 22 (.tmp 14) (.tmp 18)) [(14,(dE B)),(18,(ar k))] (tM i' a' c')∧
 Q (.tup [(AT i' a' c'),fH]) ⟨[(wY p s d sp dp),(nD i' a' c')],[]⟩))):=by kernel_rfl
end
section
open Go.RowKit Go.Maps Go.Sort
def sO (a b:aO):Bool:=decide (a.2.2<b.2.2) || (decide (a.2.2=b.2.2)&&decide (a.1≤b.1))
def mo (R:cN)(n:Int)(s:aO):Bool:=decide (0<lc R s.1 n)
def eK (S:List aO)(R:cN)(n:Int):List aO:=(bC S).filter (mo R n)
def dd (S:List aO)(R:cN)(n:Int):List aO:=(eK S R n).mergeSort sO
theorem Cp {l:List aO}{R:cN}{n:Int}{j:Nat}{s:aO}(h:l[j]?=some s):(l.take (j+1)).filter (mo R n)=(l.take j).filter (mo R n)++(if mo R n s then [s] else []):=by
 rw [List.take_add_one,h,List.filter_append]
 cases hc:mo R n s<;>simp [hc]
theorem Ev (l:List aO)(R:cN)(n:Int)(j:Nat):((l.take j).filter (mo R n)).length≤l.length:=le_trans (List.length_filter_le _ _) (by simp;omega)
end
section
open Go.RowKit
abbrev jJ:=53
def mq:List Nat:= [0,1,4,5,10,11,12]
def jd (n:Int)(A L:List (List TV))(j:Int):List TV:= [.ptr 0 0,.val (.int .i64 n),.val (.slice none 0 0),.vec 3 L (.tail 0 L.length),.vec 3 A .none,.val (.int .i64 A.length),.val (.int .i64 j)]
def lg (lk lk2:Value→Option TV)(es es2:List (Value × TV × Nat))(ck ck2 n:Nat):VT:=⟨[.cells [.map 1,.map 2],.map kI lk es ck,.map kI lk2 es2 ck2],[(n,3,true)]⟩
def KO (os:List VO)(i n c:Int):aZ:=λro ys T K=>(ro=0∧ys= [.ptr 0 0,.val (.int .i64 i),.val (.int .i64 n)]∧T.objs.take 3=os)∧K (.val (.int .i64 c)) T
theorem Cq (lk lk2:Value→Option TV)(es es2:List (Value × TV × Nat))(ck ck2:Nat)(A L:List (List TV))(n i a c p:Int)(j:Nat)(Q:Exit→List TV→VT→List Nat→Nat→Prop):vx prog ae (aE [(E6,KO (sT lk lk2 es es2 ck ck2).objs i n p)]) (bw [(999998,.dead,none),(14,.elt (da i a c),none),(25,.vec 3 (L++ [da i a c]) (.tail 0 (L.length+1)),some λT=>{T with tails:= [(L.length+1,3,true)]})]) 300 bq none 0 (dh prog jJ 0) (ax 31 mq (jd n A L j)) (lg lk lk2 es es2 ck ck2 L.length) [] (dl mq Q)=
 (bif decide ((↑j:Int)<(↑(length A):Int))
 then (aI prog (λ_=>.none) (.indexAddr 24 (.tmp 10) (.tmp 12)) [(10,(dE A)),(12,(ar (↑j:Int)))] (tM i a c)∧
 (((@Eq (Nat) 0 0)∧
 ((@Eq (List TV) [dP,(ar i),(ar n)] [dP,(ar i),(ar n)])∧
 (@Eq (List VO) [(ce (.map 1) (.map 2)),(.map ⟨false,[(.int .i64)]⟩ (lk) (es) (ck)),(.map ⟨false,[(.int .i64)]⟩ (lk2) (es2) (ck2))] [(ce (.map 1) (.map 2)),(.map ⟨false,[(.int .i64)]⟩ (lk) (es) (ck)),(.map ⟨false,[(.int .i64)]⟩ (lk2) (es2) (ck2))])))∧
 (bif decide (p>(0:Int))
 then (aN prog (λ_=>.none) 0 (AL (.map 1) (.map 2) (.map ⟨false,[(.int .i64)]⟩ (lk) (es) (ck)) (.map ⟨false,[(.int .i64)]⟩ (lk2) (es2) (ck2)) i a c [((length L),(3,true))]) (.call ⟨(.builtin .append),#[(.tmp 22),(.tmp 24)],#[24,24]⟩) [(22,(gg L (length L))),(24,(.vec 3 [[(.val (.int .i64 (i))),(.val (.int .u32 (a))),(.val (.int .i64 (c)))]] .full))] (gg (L++ [da i a c]) (length L+(1:Nat))) (AL (.map 1) (.map 2) (.map ⟨false,[(.int .i64)]⟩ (lk) (es) (ck)) (.map ⟨false,[(.int .i64)]⟩ (lk2) (es2) (ck2)) i a c [((length L+(1:Nat)),(3,true))])∧
 Q .normal (Ee n (L++ [da i a c]) (length L+(1:Nat)) A (↑(length A):Int) (wrap i64 ((↑j:Int)+(1:Int)))) (AL (.map 1) (.map 2) (.map ⟨false,[(.int .i64)]⟩ (lk) (es) (ck)) (.map ⟨false,[(.int .i64)]⟩ (lk2) (es2) (ck2)) i a c [((length L+(1:Nat)),(3,true))]) [] 31)
 else Q .normal (Ee n L (length L) A (↑(length A):Int) (wrap i64 ((↑j:Int)+(1:Int)))) (AL (.map 1) (.map 2) (.map ⟨false,[(.int .i64)]⟩ (lk) (es) (ck)) (.map ⟨false,[(.int .i64)]⟩ (lk2) (es2) (ck2)) i a c [((length L),(3,true))]) [] 31)))
 else Q (.exit 0) (Ee n L (length L) A (↑(length A):Int) (↑j:Int)) ⟨[(ce (.map 1) (.map 2)),(.map ⟨false,[(.int .i64)]⟩ (lk) (es) (ck)),(.map ⟨false,[(.int .i64)]⟩ (lk2) (es2) (ck2))],[((length L),(3,true))]⟩ [] 31):=by kernel_rfl
end
section
open Go.RowKit Go.Maps Go.Sort
theorem Cr {lk lk2:Value→Option TV}{es es2:List (Value × TV × Nat)}{ck ck2:Nat}{S:List aO}{st:List Nat}{R:cN}(h:SitesOk lk es ck S st)(h2:RepsOk lk2 es2 R)(i n:Int):
  ∀ro ys T K,KO (sT lk lk2 es es2 ck ck2).objs i n (lc R i n) ro ys T K→VCx prog ae ro E6 ys T K:=by
 rintro ro ys ⟨os,tl⟩ K ⟨⟨rfl,rfl,hos⟩,hk⟩
 have q1:=h.ren (am [0,1,2]) (am [])
 have q2:=h2.ren ck2 (am [0,1,2]) (am [])
 match os,hos with
 |o0::o1::o2::l,hos=>
  simp only [take_succ_cons,take_zero,sT,List.cons.injEq,and_true] at hos
  obtain ⟨rfl,rfl,rfl⟩:=hos
  refine (VCx.lift (xs:= [.ptr 0 0,.val (.int .i64 i),.val (.int .i64 n)]) [0,1,2] [] bc (by decide) nodup_nil (λk hk=> ?_) (by simp) (λ_ _=>zero_le _) rfl ?_ (Q:=λx T'=>x=.val (.int .i64 (lc R i n))∧T'=sT lk lk2 es es2 ck ck2) (λx T' hq=> ?_)).mono ?_
  ·simp only [mem_cons,not_mem_nil,or_false] at hk
   rcases hk with rfl | rfl | rfl
   ·exact ⟨_,rfl,rfl⟩
   ·exact ⟨_,rfl,rfl⟩
   ·exact ⟨_,rfl,rfl⟩
  ·have hg:VT.give ⟨.cells [.map 1,.map 2]:: .map kI lk es ck:: .map kI lk2 es2 ck2::l,tl⟩ [0,1,2] []=sT lk lk2 es es2 ck ck2:=by
    simp only [VT.give,map_cons,map_nil,getElem?_cons_zero,getElem?_cons_succ,getD_some,q1,q2,sT]
    rfl
   rw [hg]
   exact HH h h2 i n
  ·rw [hq.2];exact ⟨le_refl 3,zero_le _⟩
  ·rintro x T' ⟨y,T2,⟨rfl,rfl⟩,rfl,rfl⟩
   have r1:=h.ren (aq (l.length+1+1+1) [0,1,2]) (aq tl.length [])
   have r2:=h2.ren ck2 (aq (l.length+1+1+1) [0,1,2]) (aq tl.length [])
   have hb:VT.back ⟨.cells [.map 1,.map 2]:: .map kI lk es ck:: .map kI lk2 es2 ck2::l,tl⟩ [0,1,2] [] (sT lk lk2 es es2 ck ck2)=⟨.cells [.map 1,.map 2]:: .map kI lk es ck:: .map kI lk2 es2 ck2::l,tl⟩:=by
    simp only [VT.back,sT,length_cons,map_cons,map_nil,r1,r2,aS]
    simp [aS,VO.ren,TV.ren,ay,aq]
   rw [hb]
   exact hk
end
set_option maxRecDepth 100000
section
open Go.RowKit Go.Maps Go.Sort
def Ln (lk lk2:Value→Option TV)(es es2:List (Value × TV × Nat))(ck ck2:Nat)(n:Int)(A L:List (List TV))(c0:Code):Nat→Option (bH × Code):=di [(0,gX 31 mq [(5,3)] (jd n A [] 0) (lg lk lk2 es es2 ck ck2 0) λK=>K .normal (ax 31 mq (jd n A L A.length)) (lg lk lk2 es es2 ck ck2 L.length) [],c0)]
theorem A0 {x i:Operand}{l:List (Nat × TV)}{L:List (List TV)}{tok:Tok}{k:IntKind}{z:Int}{e:List TV}(hx:au ae l x=.vec 3 L tok)(hz:au ae l i=.val (.int k z))(h0:0≤z)(he:L[z.toNat]?=some e):
  aI prog ae (.indexAddr 24 x i) l (.elt e):=by
 obtain ⟨inf,i_at,i_size,_,_⟩:=nG
 exact dH (inf:=inf) Tryz.underlying24 i_at (by rw [i_size];exact hx) hz h0 he
theorem fj (f g:Nat→Option Nat):∀l:List aO,bT f g (l.map bf)=l.map bf
 |[]=>rfl
 |a::l=>by simp only [map_cons,bT,fj f g l];rfl
theorem xt {lk lk2:Value→Option TV}{es es2:List (Value × TV × Nat)}{ck ck2:Nat}{S:List aO}{st:List Nat}{R:cN}(h:SitesOk lk es ck S st)(h2:RepsOk lk2 es2 R)(n:Int)(K:KX)
  (hK:K .normal (ax 31 mq (jd n ((bC S).map bf) ((eK S R n).map bf) ((bC S).map bf).length)) (lg lk lk2 es es2 ck ck2 ((eK S R n).map bf).length) []):VWx prog ae none 0 (av prog jJ 0) (ax 31 mq (jd n ((bC S).map bf) [] 0)) (lg lk lk2 es es2 ck ck2 0) [] K:=by
 have hfew:=h.few
 have hlb:(bC S).length≤8:=by unfold bC;rw [length_map,lY];exact hfew
 have e1:=h.ren (ai 3) (ai 1)
 have e2:=h2.ren ck2 (ai 3) (ai 1)
 unfold kI at e1 e2
 let B:=bC S
 have hBl:B.length≤8:=hlb
 let F:Nat→List aO:=λj=>(B.take j).filter (mo R n)
 let sl:Nat→List TV:=λj=>jd n (B.map bf) ((F j).map bf) j
 let TT:Nat→VT:=λj=>lg lk lk2 es es2 ck ck2 ((F j).map bf).length
 let Post:Exit→List TV→VT→Prop:=λe vs T=>e=.normal∧vs=sl B.length∧T=TT B.length
 refine fc (f:=jJ) (id:=0) (by kernel_rfl) 31 mq (λj=>B.length-j) sl TT (λj=>j≤B.length) 3 1 (λ_ _=>⟨le_refl _,le_refl _⟩)
  Post (λj hj=> ?_) 0 (zero_le _) K (λe vs T ⟨h1,h2,h3⟩=> ?_)
 ·by_cases hlt:j<B.length
  ·have hs:B[j]?=some B[j]:=getElem?_eq_getElem hlt
   generalize B[j]=s at hs
   obtain ⟨i,a,c⟩:=s
   have hw:=fL j (by omega)
   have hstep:=Cp (R:=R) (n:=n) hs
   have hfl:=Ev B R n j
   refine cj ah ag (aJ λp hp=>by obtain rfl:=mem_singleton.1 hp;exact Cr h h2 i n) ak (Cq lk lk2 es es2 ck ck2 (B.map bf) ((F j).map bf) n i a c (lc R i n) j _) ?_
   refine aL (decide_eq_true (by rw [length_map];omega)) ⟨A0 rfl rfl (Int.natCast_nonneg _) (by simp only [Int.toNat_natCast];rw [getElem?_map,hs];rfl),⟨rfl,rfl,rfl⟩,?_⟩
   cases hc:decide (lc R i n>0)
   ·have hcan:mo R n (i,a,c)=false:=hc
    have hF:F (j+1)=F j:=by simp only [F];rw [hstep,hcan];simp
    refine az rfl ⟨rfl,rfl,j+1,hlt,by simp only;omega,.inr ⟨?_,?_⟩⟩
    ·simp only [VT.keep,take_succ_cons,take_zero,map_cons,map_nil,e1,e2]
     simp only [TT,hF,lg,length_map,length_append,map_append]
     rfl
    ·simp only [ay,TV.ren,fj,Tok.ren,ai]
     simp only [sl,jd,hF,hw,length_map,length_append,map_append]
     rfl
   ·have hcan:mo R n (i,a,c)=true:=hc
    have hF:F (j+1)=F j++ [(i,a,c)]:=by simp only [F];rw [hstep,hcan];simp
    have hra:bT (ai 3) (ai 1) ((F j).map bf++ [da i a c])=(F j).map bf++ [da i a c]:=by have q:=fj (ai 3) (ai 1) (F j++ [(i,a,c)]);rw [map_append] at q;exact q
    have hfl2:(F j).length≤8:=le_trans hfl hBl
    refine aL rfl ⟨sI (es2:= [da i a c]) (T1:=⟨[.cells [.map 1,.map 2],.map kI lk es ck,.map kI lk2 es2 ck2,.cells (da i a c)],[(((F j).map bf).length,3,true)]⟩) (by simp [au,dL,ct,kI];rfl) rfl (by simp only [length_cons,length_nil,length_map];omega),rfl,rfl,j+1,hlt,by simp only;omega,.inr ⟨?_,?_⟩⟩
    ·simp only [VT.keep,take_succ_cons,take_zero,map_cons,map_nil,e1,e2]
     simp only [TT,hF,lg,length_map,length_append,map_append]
     rfl
    ·simp only [ay,TV.ren,fj,hra,Tok.ren,ai]
     simp only [sl,jd,hF,hw,length_map,length_append,map_append]
     rfl
  ·obtain rfl:j=B.length:=by omega
   refine cj ah ag (aJ λp hp=>by obtain rfl:=mem_singleton.1 hp;exact Cr h h2 0 n) ak (Cq lk lk2 es es2 ck ck2 (B.map bf) ((F B.length).map bf) n 0 0 0 (lc R 0 n) B.length _) ?_
   exact az (decide_eq_false (by rw [length_map];omega)) ⟨rfl,rfl,rfl,rfl,rfl⟩
 ·subst h1 h2 h3
  have ht:F B.length=eK S R n:=by simp only [F,take_length];rfl
  have e1:sl B.length=jd n ((bC S).map bf) ((eK S R n).map bf) ((bC S).map bf).length:=by simp only [sl,ht,length_map];rfl
  have e2:TT B.length=lg lk lk2 es es2 ck ck2 ((eK S R n).map bf).length:=by simp only [TT,ht]
  rw [e1,e2]
  exact hK
theorem GF {lk lk2:Value→Option TV}{es es2:List (Value × TV × Nat)}{ck ck2:Nat}{S:List aO}{st:List Nat}{R:cN}(h:SitesOk lk es ck S st)(h2:RepsOk lk2 es2 R)(n:Int):dS prog ae (Ln lk lk2 es es2 ck ck2 n ((bC S).map bf) ((eK S R n).map bf) (av prog jJ 0)):=cn λp hp=>by
 obtain rfl:=mem_singleton.1 hp
 exact dy λK hK=>xt h h2 n K hK
end
section
open Go.RowKit
abbrev zd:=86
abbrev u7:=16
def rz (os:List VO)(ys0:List TV)(x:TV):aZ:=λro ys T K=>(ro=0∧ys=ys0∧T.objs.take 3=os)∧K x T
def KP (T1 T2:VT)(n:Nat):aZ:=λro ys T K=>(ro=0∧ys= [.row 3 3 0 n,.fn (.func 83) [] []]∧T=T1)∧K (.val (.tuple #[])) T2
def H9:aZ:=λro ys T K=>(ro=0∧ys= [.vec 3 [] (.tail 0 0),.fn (.func 83) [] []])∧K (.val (.tuple #[])) T
def sP (lk lk2:Value→Option TV)(es es2:List (Value × TV × Nat))(ck ck2 n:Nat)(cs:List TV):VT:=⟨[.cells [.map 1,.map 2],.map kI lk es ck,.map kI lk2 es2 ck2,.row cs],[(n+1,3,false)]⟩
def J2 (lk lk2:Value→Option TV)(es es2:List (Value × TV × Nat))(ck ck2:Nat)(n:Int)(A:List (List TV))(c0:Code):Nat→Option (bH × Code):=di [(0,gX 31 mq [(5,3)] (jd n A [] 0) (lg lk lk2 es es2 ck ck2 0) λK=>K .normal (ax 31 mq (jd n A [] A.length)) (lg lk lk2 es es2 ck ck2 0) [],c0)]
def Fh (lk lk2:Value→Option TV)(es es2:List (Value × TV × Nat))(ck ck2:Nat)(n:Int)(A L:List (List TV))(c0:Code):Nat→Option (bH × Code):=di [(0,tV 31 mq [(5,3)] (jd n A [] 0) (lg lk lk2 es es2 ck ck2 0) (lg lk lk2 es es2 ck ck2 L.length) 5 0 3 L,c0)]
theorem Ia (lk lk2:Value→Option TV)(es es2:List (Value × TV × Nat))(ck ck2:Nat)(A:List (List TV))(n:Int)(Q:TV→VT→Prop):aK prog ae (aE [(pd,rz (sT lk lk2 es es2 ck ck2).objs [.ptr 0 0] (dE A)),(zd,H9)]) bv 300 (J2 lk lk2 es es2 ck ck2 n A (av prog jJ 0)) 0 jJ [.ptr 0 0,.val (.int .i64 n)] (sT lk lk2 es es2 ck ck2) Q=
 (((@Eq (Nat) 0 0)∧
 ((@Eq (List TV) [dP] [dP])∧
 (@Eq (List VO) [(ce (.map 1) (.map 2)),(.map ⟨false,[(.int .i64)]⟩ (lk) (es) (ck)),(.map ⟨false,[(.int .i64)]⟩ (lk2) (es2) (ck2))] [(ce (.map 1) (.map 2)),(.map ⟨false,[(.int .i64)]⟩ (lk) (es) (ck)),(.map ⟨false,[(.int .i64)]⟩ (lk2) (es2) (ck2))])))∧
 ((av prog jJ (0:Nat)=av prog jJ (0:Nat))∧
 (((@Eq (Option Nat) .none .none)∧
 ((@Eq (Nat) 0 0)∧
 ((@Eq (List Nat) [] [])∧
 (((@Eq (Option TV) (.some dU) (.some dU))∧
 True)∧
 ((@Eq (VT) ⟨[(ce (.map 1) (.map 2)),(.map ⟨false,[(.int .i64)]⟩ (lk) (es) (ck)),(.map ⟨false,[(.int .i64)]⟩ (lk2) (es2) (ck2))],[(0,(3,true))]⟩ ⟨[(ce (.map 1) (.map 2)),(.map ⟨false,[(.int .i64)]⟩ (lk) (es) (ck)),(.map ⟨false,[(.int .i64)]⟩ (lk2) (es2) (ck2))],[(0,(3,true))]⟩)∧
 ((@Eq (Bool) true true)∧
 (@Eq (List TV) (AK n A (↑(length A):Int)) (AK n A (↑(length A):Int)))))))))∧
 (((@Eq (Nat) 0 0)∧
 (@Eq (List TV) [jW,(.fn (.func 83) [] [])] [jW,(.fn (.func 83) [] [])]))∧
 Q jW ⟨[(ce (.map 1) (.map 2)),(.map ⟨false,[(.int .i64)]⟩ (lk) (es) (ck)),(.map ⟨false,[(.int .i64)]⟩ (lk2) (es2) (ck2))],[(0,(3,true))]⟩)))):=by kernel_rfl
theorem Ib (lk lk2:Value→Option TV)(es es2:List (Value × TV × Nat))(ck ck2:Nat)(A L LS:List (List TV))(n:Int)(Q:TV→VT→Prop):aK prog ae (aE [(pd,rz (sT lk lk2 es es2 ck ck2).objs [.ptr 0 0] (dE A)),(zd,KP (sP lk lk2 es es2 ck ck2 L.length L.flatten) (sP lk lk2 es es2 ck ck2 L.length LS.flatten) L.length)]) bv 300 (Fh lk lk2 es es2 ck ck2 n A L (av prog jJ 0)) 0 jJ [.ptr 0 0,.val (.int .i64 n)] (sT lk lk2 es es2 ck ck2) Q=
 (((@Eq (Nat) 0 0)∧
 ((@Eq (List TV) [dP] [dP])∧
 (@Eq (List VO) [(ce (.map 1) (.map 2)),(.map ⟨false,[(.int .i64)]⟩ (lk) (es) (ck)),(.map ⟨false,[(.int .i64)]⟩ (lk2) (es2) (ck2))] [(ce (.map 1) (.map 2)),(.map ⟨false,[(.int .i64)]⟩ (lk) (es) (ck)),(.map ⟨false,[(.int .i64)]⟩ (lk2) (es2) (ck2))])))∧
 ((av prog jJ (0:Nat)=av prog jJ (0:Nat))∧
 (((@Eq (Option Nat) .none .none)∧
 ((@Eq (Nat) 0 0)∧
 ((@Eq (List Nat) [] [])∧
 (((@Eq (Option TV) (.some dU) (.some dU))∧
 True)∧
 ((@Eq (VT) ⟨[(ce (.map 1) (.map 2)),(.map ⟨false,[(.int .i64)]⟩ (lk) (es) (ck)),(.map ⟨false,[(.int .i64)]⟩ (lk2) (es2) (ck2))],[(0,(3,true))]⟩ ⟨[(ce (.map 1) (.map 2)),(.map ⟨false,[(.int .i64)]⟩ (lk) (es) (ck)),(.map ⟨false,[(.int .i64)]⟩ (lk2) (es2) (ck2))],[(0,(3,true))]⟩)∧
 ((@Eq (Bool) true true)∧
 ((@Eq (List TV) (AK n A (↑(length A):Int)) (AK n A (↑(length A):Int)))∧
 (@Eq (Bool) true true))))))))∧
 (((@Eq (Nat) 0 0)∧
 ((@Eq (List TV) [(.row 3 3 0 (length L)),(.fn (.func 83) [] [])] [(.row 3 3 0 (length L)),(.fn (.func 83) [] [])])∧
 (@Eq (VT) ⟨[(ce (.map 1) (.map 2)),(.map ⟨false,[(.int .i64)]⟩ (lk) (es) (ck)),(.map ⟨false,[(.int .i64)]⟩ (lk2) (es2) (ck2)),(.row (flatten L))],[((length L+(1:Nat)),(3,false))]⟩ ⟨[(ce (.map 1) (.map 2)),(.map ⟨false,[(.int .i64)]⟩ (lk) (es) (ck)),(.map ⟨false,[(.int .i64)]⟩ (lk2) (es2) (ck2)),(.row (flatten L))],[((length L+(1:Nat)),(3,false))]⟩)))∧
 Q (.row 3 3 0 (length L)) ⟨[(ce (.map 1) (.map 2)),(.map ⟨false,[(.int .i64)]⟩ (lk) (es) (ck)),(.map ⟨false,[(.int .i64)]⟩ (lk2) (es2) (ck2)),(.row (flatten LS))],[((length L+(1:Nat)),(3,false))]⟩)))):=by kernel_rfl
theorem Ic (lk lk2:Value→Option TV)(es es2:List (Value × TV × Nat))(ck ck2:Nat)(n:Int)(Q:TV→VT→Prop):aK prog ae (aE [(jJ,rz (sT lk lk2 es es2 ck ck2).objs [.ptr 0 0,.val (.int .i64 n)] (.vec 3 [] .none))]) bv 300 bq 0 u7 [.ptr 0 0,.val (.int .i64 n)] (sT lk lk2 es es2 ck ck2) Q=
 (((@Eq (Nat) 0 0)∧
 ((@Eq (List TV) (o7 n) (o7 n))∧
 (@Eq (List VO) [(ce (.map 1) (.map 2)),(.map ⟨false,[(.int .i64)]⟩ (lk) (es) (ck)),(.map ⟨false,[(.int .i64)]⟩ (lk2) (es2) (ck2))] [(ce (.map 1) (.map 2)),(.map ⟨false,[(.int .i64)]⟩ (lk) (es) (ck)),(.map ⟨false,[(.int .i64)]⟩ (lk2) (es2) (ck2))])))∧
 Q Hs ⟨[(ce (.map 1) (.map 2)),(.map ⟨false,[(.int .i64)]⟩ (lk) (es) (ck)),(.map ⟨false,[(.int .i64)]⟩ (lk2) (es2) (ck2)),Hr],[]⟩):=by kernel_rfl
theorem Id (lk lk2:Value→Option TV)(es es2:List (Value × TV × Nat))(ck ck2:Nat)(i a c:Int)(LS:List (List TV))(n:Int)(Q:TV→VT→Prop):aK prog ae (aE [(jJ,rz (sT lk lk2 es es2 ck ck2).objs [.ptr 0 0,.val (.int .i64 n)] (dE (da i a c::LS)))]) bv 300 bq 0 u7 [.ptr 0 0,.val (.int .i64 n)] (sT lk lk2 es es2 ck ck2) Q=
 (((@Eq (Nat) 0 0)∧
 ((@Eq (List TV) (o7 n) (o7 n))∧
 (@Eq (List VO) [(ce (.map 1) (.map 2)),(.map ⟨false,[(.int .i64)]⟩ (lk) (es) (ck)),(.map ⟨false,[(.int .i64)]⟩ (lk2) (es2) (ck2))] [(ce (.map 1) (.map 2)),(.map ⟨false,[(.int .i64)]⟩ (lk) (es) (ck)),(.map ⟨false,[(.int .i64)]⟩ (lk2) (es2) (ck2))])))∧
 Q (.tup [(AT i a c),fH]) (o9 (.map 1) (.map 2) (.map ⟨false,[(.int .i64)]⟩ (lk) (es) (ck)) (.map ⟨false,[(.int .i64)]⟩ (lk2) (es2) (ck2)) i a c)):=by kernel_rfl
end
end Go.Proofs.YtgboehkdijjnkaaGreatDoor
namespace Go.Proofs
open Go.RowKit
open _root_.Array (length_toList)
open Go.BinOp (eql)
open _root_.Bool (not_eq_true')
open Go.Calls (mono)
open Go.Fence (wide)
open _root_.Function (comp_def)
open Go.IntKind (i64 u32 u64 wrap)
open _root_.List (append_nil eq_nil_of_length_eq_zero ext_getElem? find?_some flatMap_cons flatten flatten_cons getElem?_cons_succ getElem?_cons_zero getElem?_eq_getElem getElem?_eq_none getElem?_map getElem?_take length length_append length_cons length_map length_mergeSort length_nil map_append map_cons map_map map_nil mem_cons mem_cons_of_mem mem_cons_self mem_map mem_map_of_mem mem_of_getElem? mem_singleton nodup_nil not_mem_nil setIfInBounds_toArray set_cons_succ set_cons_zero take_length take_succ_cons take_zero zipWith)
open _root_.Nat (add_mul beq beq_refl le_refl le_trans not_lt_zero zero_add zero_le)
open _root_.Option (getD_some map_some)
open Go.Sort (grow)
open Go.Proofs.Tryz (func100 func117 func118 func142 func143 func83 func92 isAgg0 isAgg29 isAgg3 isAgg4 isAgg5 isAgg53 isAgg72 isAgg9 prog sizeOf0 sizeOf3 sizeOf4 sizeOf5 sizeOf9)
open Go.World (cell?)
open Go.Shelf
def Tryz.sortSi_ren:Go.Shelf.Ren:=⟨λ| 6=>86 | 15=>100 | 14=>99 | 28=>117 | 29=>118 | 20=>109 | 21=>110 | 22=>111 | 23=>112 | 24=>113 | 25=>114 | 26=>115 | 27=>116 | 46=>141 | 47=>142 | 48=>143 | 49=>144 | 50=>145 | 57=>156 | n=>n,λ| 22=>24 | 24=>62 | 25=>163 | 3=>3 | 39=>72 | 0=>0 | 53=>29 | 55=>53 | 4=>4 | 46=>181 | 45=>180 | 50=>116 | 5=>5 | 9=>9 | 66=>203 | 70=>207 | 76=>216 | 77=>217 | n=>n,λ| n=>n⟩
theorem Tryz.sortSi:Go.Proofs.SlLaysF0.n6 prog Tryz.sortSi_ren:={
 mixed:=by kernel_rfl
 f6:=⟨Tryz.f86.name,by decide,Tryz.func86.trans (congrArg some (by kernel_rfl))⟩
 f14:=⟨Tryz.f99.name,by decide,Tryz.func99.trans (congrArg some (by kernel_rfl))⟩
 f15:=func100.trans (congrArg some (by kernel_rfl))
 f20:=⟨Tryz.f109.name,by decide,Tryz.func109.trans (congrArg some (by kernel_rfl))⟩
 f21:=⟨Tryz.f110.name,by decide,Tryz.func110.trans (congrArg some (by kernel_rfl))⟩
 f22:=⟨Tryz.f111.name,by decide,Tryz.func111.trans (congrArg some (by kernel_rfl))⟩
 f23:=⟨Tryz.f112.name,by decide,Tryz.func112.trans (congrArg some (by kernel_rfl))⟩
 f24:=⟨Tryz.f113.name,by decide,Tryz.func113.trans (congrArg some (by kernel_rfl))⟩
 f25:=⟨Tryz.f114.name,by decide,Tryz.func114.trans (congrArg some (by kernel_rfl))⟩
 f26:=⟨Tryz.f115.name,by decide,Tryz.func115.trans (congrArg some (by kernel_rfl))⟩
 f27:=⟨Tryz.f116.name,by decide,Tryz.func116.trans (congrArg some (by kernel_rfl))⟩
 f28:=func117.trans (congrArg some (by kernel_rfl))
 f29:=func118.trans (congrArg some (by kernel_rfl))
 f46:=⟨Tryz.f141.name,by decide,Tryz.func141.trans (congrArg some (by kernel_rfl))⟩
 f47:=func142.trans (congrArg some (by kernel_rfl))
 f48:=func143.trans (congrArg some (by kernel_rfl))
 f49:=⟨Tryz.f144.name,by decide,Tryz.func144.trans (congrArg some (by kernel_rfl))⟩
 f50:=⟨Tryz.f145.name,by decide,Tryz.func145.trans (congrArg some (by kernel_rfl))⟩
 f57:=⟨Tryz.f156.name,by decide,Tryz.func156.trans (congrArg some (by kernel_rfl))⟩
 t0:=Tryz.underlying0
 a0:=isAgg0
 z0:=sizeOf0
 v0:=Tryz.zeroValue0
 t3:=Tryz.underlying3
 a3:=isAgg3
 z3:=sizeOf3
 v3:=Tryz.zeroValue3
 t4:=Tryz.underlying4
 a4:=isAgg4
 z4:=sizeOf4
 v4:=Tryz.zeroValue4
 t5:=Tryz.underlying5
 a5:=isAgg5
 z5:=sizeOf5
 v5:=Tryz.zeroValue5
 t9:=Tryz.underlying9
 a9:=isAgg9
 z9:=sizeOf9
 v9:=Tryz.zeroValue9
 t22:=Tryz.underlying24
 a22:=Tryz.isAgg24
 z22:=Tryz.sizeOf24
 v22:=Tryz.zeroValue24
 t25:=Tryz.underlying163
 a25:=Tryz.isAgg163
 z25:=Tryz.sizeOf163
 v25:=Tryz.zeroValue163
 t39:=Tryz.underlying72
 a39:=isAgg72
 z39:=Tryz.sizeOf72
 v39:=Tryz.zeroValue72
 t45:=Tryz.underlying180
 a45:=Tryz.isAgg180
 z45:=Tryz.sizeOf180
 v45:=Tryz.zeroValue180
 t46:=Tryz.underlying181
 a46:=Tryz.isAgg181
 z46:=Tryz.sizeOf181
 v46:=Tryz.zeroValue181
 t50:=Tryz.underlying116
 a50:=Tryz.isAgg116
 z50:=Tryz.sizeOf116
 v50:=Tryz.zeroValue116
 t53:=Tryz.underlying29
 a53:=isAgg29
 z53:=Tryz.sizeOf29
 v53:=Tryz.zeroValue29
 t55:=Tryz.underlying53
 a55:=isAgg53
 z55:=Tryz.sizeOf53
 v55:=Tryz.zeroValue53
 t66:=Tryz.underlying203
 a66:=Tryz.isAgg203
 z66:=Tryz.sizeOf203
 v66:=Tryz.zeroValue203
 t70:=Tryz.underlying207
 a70:=Tryz.isAgg207
 z70:=Tryz.sizeOf207
 v70:=Tryz.zeroValue207
 t76:=Tryz.underlying216
 a76:=Tryz.isAgg216
 z76:=Tryz.sizeOf216
 v76:=Tryz.zeroValue216
 t77:=Tryz.underlying217
 a77:=Tryz.isAgg217
 z77:=Tryz.sizeOf217
 v77:=Tryz.zeroValue217}
end Go.Proofs
namespace Go.Proofs.YtgboehkdijjnkaaGreatDoor
open Go.RowKit
open _root_.Array (length_toList)
open Go.BinOp (eql)
open _root_.Bool (not_eq_true')
open Go.Calls (mono)
open Go.Fence (wide)
open _root_.Function (comp_def)
open Go.IntKind (i64 u32 u64 wrap)
open _root_.List (append_nil eq_nil_of_length_eq_zero ext_getElem? find?_some flatMap_cons flatten flatten_cons getElem?_cons_succ getElem?_cons_zero getElem?_eq_getElem getElem?_eq_none getElem?_map getElem?_take length length_append length_cons length_map length_mergeSort length_nil map_append map_cons map_map map_nil mem_cons mem_cons_of_mem mem_cons_self mem_map mem_map_of_mem mem_of_getElem? mem_singleton nodup_nil not_mem_nil setIfInBounds_toArray set_cons_succ set_cons_zero take_length take_succ_cons take_zero zipWith)
open _root_.Nat (add_mul beq beq_refl le_refl le_trans not_lt_zero zero_add zero_le)
open _root_.Option (getD_some map_some)
open Go.Sort (grow)
open Go.Proofs.Tryz (func100 func117 func118 func142 func143 func83 func92 isAgg0 isAgg29 isAgg3 isAgg4 isAgg5 isAgg53 isAgg72 isAgg9 prog sizeOf0 sizeOf3 sizeOf4 sizeOf5 sizeOf9)
open Go.World (cell?)
section
open Go.RowKit Go.Sort
section
variable {α:Type}[Inhabited α]
theorem GG (w:World)(os:Array Obj):Gr w (grow w os):=⟨rfl,rfl,rfl,by simp [grow],λk hk=>by simp [grow,Array.getElem?_append,hk]⟩
theorem xu (enc:α→List Value)(k:Nat)(hk:∀x,(enc x).length=k)(h1:∀x,∀v∈enc x,v.oneCell'=true){l l':List α}(hlen:l'.length=l.length){g:Gh}{T:VT}{w w':World}{id b n:Nat}{os:Array Obj}(r:RW g T w)
  (hid:T.objs[id]?=some (.row ((l.flatMap enc).map .val))) (hb:g.obj id=some b) (hw:w'=sortWorldK enc k w b 0 n l'.toArray os):
  Evo g w g w'∧RW g {T with objs:=T.objs.set id (.row ((l'.flatMap enc).map .val))} w':=by
 obtain ⟨b',q1,⟨us,ty,q2,q3,q4,q5⟩,_⟩:=r.obj id _ hid rfl
 rw [hb] at q1;injection q1 with q1;subst q1
 have hfl:(l.flatMap enc).length=l.length*k:=gj enc k hk l
 have hfl':(l'.flatMap enc).length=l.length*k:=by rw [gj enc k hk,hlen]
 have hF:(flatK enc k l'.toArray).size=l.length*k:=by simp [hlen]
 have hle:l.length*k≤us.length:=by simpa [hfl] using q3
 have hXs:(putCells _root_.id 0 (flatK enc k l'.toArray) us.toArray).size=us.length:=by simp [putCells]
 have hX:∀j,j<us.length→(putCells _root_.id 0 (flatK enc k l'.toArray) us.toArray)[j]?=if j<l.length*k then (l'.flatMap enc)[j]? else us[j]?:=λj hj=>by
  simp only [putCells,Array.getElem?_mapIdx,List.getElem?_toArray,zero_le,true_and,zero_add,Nat.sub_zero,hF]
  rw [getElem?_eq_getElem hj]
  by_cases h:j<l.length*k
  ·simp only [if_pos h,map_some,_root_.id]
   have:=sM enc k hk l'.toArray j (by simpa [hlen] using h)
   simpa using this.symm
  ·simp only [if_neg h,map_some]
 have hw1:(putRowK enc k (Sort.ahead w n) b 0 l'.toArray).heap=w.heap.modify b (onCells (putCells _root_.id 0 (flatK enc k l'.toArray))):=rfl
 have hoth:∀c,c≠b→(putRowK enc k (Sort.ahead w n) b 0 l'.toArray).heap[c]?=w.heap[c]?:=λc hc=>by rw [hw1,Array.getElem?_modify,if_neg (Ne.symm hc)]
 have hbk:(putRowK enc k (Sort.ahead w n) b 0 l'.toArray).heap[b]?=some (.cells (putCells _root_.id 0 (flatK enc k l'.toArray) us.toArray) ty (0,0)):=by
  rw [hw1,Array.getElem?_modify,if_pos rfl,q2];rfl
 have hg:Gr (putRowK enc k (Sort.ahead w n) b 0 l'.toArray) w':=by subst hw;exact GG _ _
 have hos:(putRowK enc k (Sort.ahead w n) b 0 l'.toArray).os=w.os∧(putRowK enc k (Sort.ahead w n) b 0 l'.toArray).tape=w.tape∧(putRowK enc k (Sort.ahead w n) b 0 l'.toArray).output=w.output:=⟨rfl,rfl,rfl⟩
 have hsz:(putRowK enc k (Sort.ahead w n) b 0 l'.toArray).heap.size=w.heap.size:=by rw [hw1];simp
 generalize putRowK enc k (Sort.ahead w n) b 0 l'.toArray=w1 at*
 generalize putCells _root_.id 0 (flatK enc k l'.toArray) us.toArray=X at*
 have e0:VRs g w ((l'.flatMap enc).map TV.val) (X.toList.take ((l'.flatMap enc).map TV.val).length):=by
  have e:X.toList.take ((l'.flatMap enc).map TV.val).length=l'.flatMap enc:=by
   apply ext_getElem?
   intro j
   rw [length_map,hfl',getElem?_take]
   by_cases h:j<l.length*k
   ·rw [if_pos h,Array.getElem?_toList,hX j (by omega),if_pos h]
   ·rw [if_neg h,getElem?_eq_none (by omega)]
  rw [e]
  exact VRs.vals _ _ _
 have o1:∀v∈X.toList.take ((l'.flatMap enc).map TV.val).length,v.oneCell'=true:=by
  intro v hv
  have e:X.toList.take ((l'.flatMap enc).map TV.val).length=l'.flatMap enc:=by
   apply ext_getElem?
   intro j
   rw [length_map,hfl',getElem?_take]
   by_cases h:j<l.length*k
   ·rw [if_pos h,Array.getElem?_toList,hX j (by omega),if_pos h]
   ·rw [if_neg h,getElem?_eq_none (by omega)]
  rw [e] at hv
  obtain ⟨x,_,hx⟩:=List.mem_flatMap.1 hv
  exact h1 x _ hx
 obtain ⟨_,e9⟩:=r.setObj hid rfl hb (o':=.gone) (w':=w1) hos hsz hoth (by rw [aY hbk,aY q2,hXs];simp) (λh=>by cases h)
 obtain ⟨r1,e1⟩:=r.setObj hid rfl hb (o':=.row ((l'.flatMap enc).map .val)) (w':=w1) hos hsz hoth (by rw [aY hbk,aY q2,hXs];simp)
  (λ_=>⟨X.toList,ty,by simpa using hbk,by simp [hfl',hXs];exact hle,e0.mono e9,o1⟩)
 exact ⟨e1.trans (Evo.of_gr r1 hg),r1.gr hg⟩
end
end
section
open Go.RowKit Go.Sort Go.Shelf
def sA (A:Int→Int)(p:Int × Int):aO:=(p.1,A p.1,p.2)
def ig (A:Int→Int)(p:Int × Int):List Value:= [.int .i64 p.1,.int .u32 (A p.1),.int .i64 p.2]
theorem je (A:Int→Int)(p:Int × Int):(ig A p).length=3:=rfl
theorem xw (A:Int→Int)(p:Int × Int):∀v∈ig A p,v.oneCell'=true:=by
 intro v hv
 simp [ig] at hv
 rcases hv with rfl | rfl | rfl<;>rfl
theorem xx (A:Int→Int)(l:List (Int × Int)):((l.map (sA A)).map bf).flatten=(l.flatMap (ig A)).map .val:=by
 induction l with
 |nil=>rfl
 |cons a l ih=>rw [map_cons,map_cons,flatten_cons,ih,flatMap_cons,map_append];rfl
def qO (p q:Int × Int):Int:=lf [dt p.2 q.2,dt p.1 q.1]
theorem sQ (a b:Int):(dt a b=-1∧a<b)∨(dt a b=1∧b<a)∨(dt a b=0∧a=b):=by unfold dt;split<;>(try split)<;>omega
theorem Cs (p q:Int × Int):ltOf qO p q=true ↔ p.2<q.2∨(p.2=q.2∧p.1<q.1):=by
 simp only [ltOf,qO,lf]
 rcases sQ p.2 q.2 with ⟨h1,h2⟩ | ⟨h1,h2⟩ | ⟨h1,h2⟩<;>rcases sQ p.1 q.1 with ⟨h3,h4⟩ | ⟨h3,h4⟩ | ⟨h3,h4⟩<;>simp [h1,h3]<;>omega
theorem qg (p q:Int × Int):ltOf qO p q=false ↔ ¬(p.2<q.2∨(p.2=q.2∧p.1<q.1)):=by rw [←Cs];simp
theorem Ie:SWO (ltOf qO):=by
 refine ⟨λx=> ?_,λx y z h1 h2=> ?_,λx y z h1 h2=> ?_⟩
 ·rw [qg];omega
 ·rw [Cs] at*;omega
 ·rw [qg] at*;omega
theorem Ew (x y:Int × Int)(h1:ltOf qO x y=false)(h2:ltOf qO y x=false):x=y:=by
 rw [qg] at h1 h2
 have:x.1=y.1∧x.2=y.2:=by omega
 exact Prod.ext this.1 this.2
def ki (l:List (Int × Int)):List (Int × Int):=l.mergeSort λx y=> !(ltOf qO) y x
theorem Ct (l:List (Int × Int)):(ki l).length=l.length:=length_mergeSort l
theorem If (A:Int→Int)(blk off size:Nat)(w:World):CmpLays prog 83 #[] (ig A) 3 qO blk off size w:=
 λ_ _ _ _ x y=>(GC (sA A x) (sA A y) _).mono λ_ _ ⟨he,hg⟩=>⟨he,hg.grow⟩
theorem Cu {G:aC}(A:Int→Int)(l:List (Int × Int))(hl:l.length<4611686018427387904):VCx prog G 0 zd [.row 3 0 0 l.length,.fn (.func 83) [] []] ⟨[.row ((l.map (sA A)).map bf).flatten],[]⟩ λx T'=>x=.val (.tuple #[])∧T'=⟨[.row (((ki l).map (sA A)).map bf).flatten],[]⟩:=by
 rw [xx,xx]
 intro g w us r hG hx
 match us,hx.1 with
 |[u,f],_=>
  obtain ⟨b,c,f1,f2,f3,f4,f5,rfl⟩:=(hx.2 0 _ u rfl rfl).row_inv
  obtain ⟨us,vs,rfl,h3,h4⟩:=(hx.2 1 _ f rfl rfl).fn_inv
  have e3:us= []:=eq_nil_of_length_eq_zero h3.1
  have e4:vs= []:=eq_nil_of_length_eq_zero h4.1
  subst e3 e4
  obtain ⟨b',q1,⟨us,ty,q2,q3,q4,q5⟩,_⟩:=r.obj 0 _ rfl rfl
  rw [f1] at q1;injection q1 with q1;subst q1
  have hfix:∀(T':VT) (w':World),T'.objs.length=1→Fix 0 g ⟨[.row ((l.flatMap (ig A)).map .val)],[]⟩ w T' w':=λT' w' h=>⟨by simp [h],λi hi=>absurd hi (not_lt_zero i),λi o b hi=>absurd hi (not_lt_zero i)⟩
  rcases Nat.eq_zero_or_pos l.length with h0 | hpos
  ·have:l= []:=eq_nil_of_length_eq_zero h0
   subst this
   refine (AnyF.slices_SortFunc_none Tryz.sortSi (some ⟨b,0*3,none⟩) c _ w).mono λe w' ⟨he,hw⟩=> ?_
   subst hw
   exact ⟨.tuple #[],_,g,_,he,⟨rfl,by simp [ki]⟩,Evo.refl _ _,r,.val _,hfix _ _ rfl⟩
  ·have hcs:=aY q2
   rw [List.size_toArray] at hcs
   have hul:us.length=c*3:=by rw [←hcs,←f5];omega
   have htk:us.take (l.length*3)=l.flatMap (ig A):=by
    have hlen:((l.flatMap (ig A)).map TV.val).length=l.length*3:=by rw [length_map,gj (ig A) 3 (je A)]
    rw [hlen] at q4
    exact lV (by simp [bM,comp_def]) q4
   have hown:w.ownsRow 0 ty 3 (.slice (some ⟨b,0,none⟩) l.toArray.size c) l.toArray.size (l.toArray.toList.flatMap (ig A)):=by
    refine ⟨by simp [gj (ig A) 3 (je A)],.inr ⟨b,c,us.toArray,by simp,zero_le _,q2,by simpa using f3,f4,by simpa using hul,?_⟩⟩
    simpa [gj (ig A) 3 (je A)] using htk
   obtain ⟨g',cap',hv,hb',hg',hH⟩:=uY (ig A) 3 (je A) l.toArray hown (by simpa using hpos)
   injection hv with p1 _ p3
   injection p1 with p1;injection p1 with p1
   subst p1 p3
   have hs:l.toArray.size<4611686018427387904:=by simpa using hl
   have eg:∀args w,(callFunc 83 args).run prog w=.ok (.enter 83 args) w:=enters_of func83 (by kernel_rfl) rfl
   have hcon:=AnyQ.slices_SortFunc_total Tryz.sortSi 3 Tryz.isAgg62 Tryz.sizeOf62 (ig A) (je A) (xw A) qO Ie 83 #[] b 0 c l.toArray w eg (If A b 0 _ w) hH hg' hs Ew
   refine mono hcon λ_ _ ⟨he,n,os,hw⟩=> ?_
   obtain ⟨e1,r1⟩:=xu (ig A) 3 (je A) (xw A) (l:=l) (l':=ki l) (Ct l) r rfl f1 hw
   exact ⟨.tuple #[],_,g,_,he,⟨rfl,rfl⟩,e1,r1,.val _,hfix _ _ rfl⟩
end
set_option maxRecDepth 100000
section
open Go.RowKit Go.Maps Go.Sort Go.Shelf
theorem ze {lk lk2:Value→Option TV}{es es2:List (Value × TV × Nat)}{ck ck2:Nat}{S:List aO}{st:List Nat}{R:cN}(h:SitesOk lk es ck S st)(h2:RepsOk lk2 es2 R){f:FuncId}{ys0:List TV}{x0:TV}
  (hy:ay (am [0,1,2]) (am []) ys0=ys0) (hx:∀f g,x0.ren f g=x0) (hv:VCx prog ae 0 f ys0 (sT lk lk2 es es2 ck ck2) λx T'=>x=x0∧T'=sT lk lk2 es es2 ck ck2):
  ∀ro ys T K,rz (sT lk lk2 es es2 ck ck2).objs ys0 x0 ro ys T K→VCx prog ae ro f ys T K:=by
 rintro ro ys ⟨os,tl⟩ K ⟨⟨rfl,rfl,hos⟩,hk⟩
 have q1:=h.ren (am [0,1,2]) (am [])
 have q2:=h2.ren ck2 (am [0,1,2]) (am [])
 match os,hos with
 |o0::o1::o2::l,hos=>
  simp only [take_succ_cons,take_zero,sT,List.cons.injEq,and_true] at hos
  obtain ⟨rfl,rfl,rfl⟩:=hos
  refine (VCx.lift (xs:=ys) [0,1,2] [] bc (by decide) nodup_nil (λk hk=> ?_) (by simp) (λ_ _=>zero_le _) hy ?_ (Q:=λx T'=>x=x0∧T'=sT lk lk2 es es2 ck ck2) (λx T' hq=> ?_)).mono ?_
  ·simp only [mem_cons,not_mem_nil,or_false] at hk
   rcases hk with rfl | rfl | rfl
   ·exact ⟨_,rfl,rfl⟩
   ·exact ⟨_,rfl,rfl⟩
   ·exact ⟨_,rfl,rfl⟩
  ·have hg:VT.give ⟨.cells [.map 1,.map 2]:: .map kI lk es ck:: .map kI lk2 es2 ck2::l,tl⟩ [0,1,2] []=sT lk lk2 es es2 ck ck2:=by
    simp only [VT.give,map_cons,map_nil,getElem?_cons_zero,getElem?_cons_succ,getD_some,q1,q2,sT]
    rfl
   rw [hg]
   exact hv
  ·rw [hq.2];exact ⟨le_refl 3,zero_le _⟩
  ·rintro x T' ⟨y,T2,⟨rfl,rfl⟩,rfl,rfl⟩
   have r1:=h.ren (aq (l.length+1+1+1) [0,1,2]) (aq tl.length [])
   have r2:=h2.ren ck2 (aq (l.length+1+1+1) [0,1,2]) (aq tl.length [])
   have hb:VT.back ⟨.cells [.map 1,.map 2]:: .map kI lk es ck:: .map kI lk2 es2 ck2::l,tl⟩ [0,1,2] [] (sT lk lk2 es es2 ck ck2)=⟨.cells [.map 1,.map 2]:: .map kI lk es ck:: .map kI lk2 es2 ck2::l,tl⟩:=by
    simp only [VT.back,sT,length_cons,map_cons,map_nil,r1,r2,aS]
    simp [aS,VO.ren,TV.ren,ay,aq]
   rw [hb,hx]
   exact hk
theorem Ig {G:aC}:∀ro ys T K,H9 ro ys T K→VCx prog G ro zd ys T K:=by
 rintro ro ys T K ⟨⟨rfl,rfl⟩,hk⟩ g w us r hG hx
 have hl:=hx.1
 match us,hl with
 |[u,f],_=>
  obtain ⟨us,vs,rfl,h3,h4⟩:=(hx.2 1 _ f rfl rfl).fn_inv
  have e3:us= []:=eq_nil_of_length_eq_zero h3.1
  have e4:vs= []:=eq_nil_of_length_eq_zero h4.1
  subst e3 e4
  have key:∀p c,Calls prog zd #[.slice p 0 c,.func (.func 83) #[] #[]] w λe w'=>∃v x g' T',e=.returned v∧K x T'∧Evo g w g' w'∧RW g' T' w'∧VR g' w' x v∧Fix 0 g T w T' w':=λp c=>
   (AnyF.slices_SortFunc_none Tryz.sortSi p c _ w).mono λe w' ⟨he,hw⟩=>by
    subst hw
    exact ⟨.tuple #[],_,g,_,he,hk,Evo.refl _ _,r,.val _,Fix.refl _ _ _ _⟩
  rcases (hx.2 0 _ u rfl rfl).vec_inv with ⟨rfl,_⟩ | ⟨b,o,c,us,rfl,_⟩ | ⟨a,rfl,_⟩
  ·exact key none 0
  ·exact key _ c
  ·exact key _ 0
def xy (S:List aO)(i:Int):Int:=(dV S i).2.1
def Fj (s:aO):Int × Int:=(s.1,s.2.2)
theorem rA {S:List aO}{s:aO}(h:s∈bC S):s∈S∧dV S s.1=s:=by
 unfold bC at h
 obtain ⟨z,hz,rfl⟩:=mem_map.1 h
 have hm:z∈S.map (·.1):=(List.mergeSort_perm (S.map (·.1)) leI).mem_iff.1 hz
 obtain ⟨s0,hs0,he⟩:=mem_map.1 hm
 cases hf:S.find? λs=>s.1==z with
 |none=>
  have:=List.find?_eq_none.1 hf s0 hs0
  simp [he] at this
 |some s=>
  have h1:s.1=z:=by simpa using find?_some hf
  refine ⟨List.mem_of_find?_eq_some hf,?_⟩
  simp only [dV,getD_some,h1,hf]
theorem xz (S:List aO):∀{l:List aO},(∀s∈l,dV S s.1=s)→(l.map Fj).map (sA (xy S))=l
 |[],_=>rfl
 |s::l,h=>by
  have h1:=h s mem_cons_self
  simp only [map_cons,xz S λs hs=>h s (mem_cons_of_mem _ hs)]
  congr 1
  show (s.1,xy S s.1,s.2.2)=s
  rw [xy,h1]
theorem J3 (A:Int→Int)(a b:Int × Int):(!(ltOf qO) b a)=sO (sA A a) (sA A b):=by
 have h1:=qg b a
 rw [Bool.eq_iff_iff]
 simp only [not_eq_true',h1,sO,sA,Bool.or_eq_true,Bool.and_eq_true,decide_eq_true_eq]
 show ¬(b.2<a.2∨b.2=a.2∧b.1<a.1) ↔ decide (a.2<b.2)=true∨decide (a.2=b.2)=true∧decide (a.1≤b.1)=true
 simp only [decide_eq_true_eq]
 omega
theorem A1 {S:List aO}{l:List aO}(h:∀s∈l,dV S s.1=s):(ki (l.map Fj)).map (sA (xy S))=l.mergeSort sO:=by
 unfold ki
 rw [List.map_mergeSort (s:=sO) (λa _ b _=>J3 _ a b),xz S h]
theorem Cv {S:List aO}{R:cN}{n:Int}{s:aO}(h:s∈eK S R n):s∈S∧dV S s.1=s∧0<lc R s.1 n:=by
 obtain ⟨h1,h2⟩:=List.mem_filter.1 h
 exact ⟨(rA h1).1,(rA h1).2,by simpa [mo] using h2⟩
theorem GH (l:List aO):∀e∈l.map bf,e.length=3:=λe he=>by obtain ⟨s,_,rfl⟩:=mem_map.1 he;rfl
theorem Ex (l:List aO):∀c∈(l.map bf).flatten,FreeT c:=λc hc=>by
 obtain ⟨e,he,hc⟩:=List.mem_flatten.1 hc
 obtain ⟨s,_,rfl⟩:=mem_map.1 he
 simp only [bf,da,mem_cons,not_mem_nil,or_false] at hc
 rcases hc with rfl | rfl | rfl<;>exact .val _
theorem Ey {lk lk2:Value→Option TV}{es es2:List (Value × TV × Nat)}{ck ck2 n:Nat}{S:List aO}{st:List Nat}{R:cN}(h:SitesOk lk es ck S st)(h2:RepsOk lk2 es2 R):∀o∈(lg lk lk2 es es2 ck ck2 n).objs,vG o:=λo ho=>by
 simp only [lg,mem_cons,not_mem_nil,or_false] at ho
 rcases ho with rfl | rfl | rfl
 ·intro c hc
  simp only [mem_cons,not_mem_nil,or_false] at hc
  rcases hc with rfl | rfl<;>exact .map _
 ·intro e he
  rw [h.ents] at he
  have go:∀(S:List aO) (st:List Nat),e∈zipWith (λs b=>(aB s.1,ix s,b)) S st→FreeT e.2.1:=by
   intro S
   induction S with
   |nil=>intro st he;simp at he
   |cons s S ih=>
    intro st he
    cases st with
    |nil=>simp at he
    |cons b st=>
     rcases mem_cons.1 he with rfl | he
     ·refine .agg λc hc=> ?_
      simp only [da,mem_cons,not_mem_nil,or_false] at hc
      rcases hc with rfl | rfl | rfl<;>exact .val _
     ·exact ih st he
  exact go S st he
 ·intro e he
  obtain ⟨r,hr⟩:=h2.ents e he
  rw [hr]
  refine .agg λc hc=> ?_
  simp only [Hu,mem_cons,not_mem_nil,or_false] at hc
  rcases hc with rfl | rfl<;>exact .val _
theorem J4 {lk lk2:Value→Option TV}{es es2:List (Value × TV × Nat)}{ck ck2:Nat}{S:List aO}{st:List Nat}{R:cN}(h:SitesOk lk es ck S st)(h2:RepsOk lk2 es2 R)(l:List aO)(hl:l.length≤8)(hm:∀s∈l,dV S s.1=s):
  ∀ro ys T K,KP (sP lk lk2 es es2 ck ck2 (l.map bf).length (l.map bf).flatten) (sP lk lk2 es es2 ck ck2 (l.map bf).length ((l.mergeSort sO).map bf).flatten) (l.map bf).length ro ys T K→VCx prog ae ro zd ys T K:=by
 rintro ro ys T K ⟨⟨rfl,rfl,rfl⟩,hk⟩
 have hs:=Cu (G:=ae) (xy S) (l.map Fj) (by rw [length_map];omega)
 rw [A1 hm,xz S hm,show (l.map Fj).length=(l.map bf).length by simp] at hs
 have e1:∀(f g:Nat→Option Nat) (l:List aO),VO.ren f g (.row (l.map bf).flatten)=.row (l.map bf).flatten:=λf g l=>by
  have:ay f g (l.map bf).flatten=(l.map bf).flatten:=by
   induction l with
   |nil=>rfl
   |cons a l ih=>rw [map_cons,flatten_cons,c7,map_append,←c7,←c7,ih];rfl
  simp only [VO.ren,this]
 refine (VCx.lift (xs:= [.row 3 0 0 (l.map bf).length,.fn (.func 83) [] []]) [3] [] bc (by decide) nodup_nil (λk hk=> ?_) (by simp) (λ_ _=>zero_le _) rfl ?_ (Q:=λx T'=>x=.val (.tuple #[])∧T'=⟨[.row ((l.mergeSort sO).map bf).flatten],[]⟩) (λx T' hq=> ?_)).mono ?_
 ·simp only [mem_cons,not_mem_nil,or_false] at hk
  subst hk
  exact ⟨_,rfl,rfl⟩
 ·have hg:VT.give (sP lk lk2 es es2 ck ck2 (l.map bf).length (l.map bf).flatten) [3] []=⟨[.row (l.map bf).flatten],[]⟩:=by
   simp only [VT.give,sP,map_cons,map_nil,getElem?_cons_zero,getElem?_cons_succ,getD_some,e1]
  rw [hg]
  exact hs
 ·rw [hq.2];exact ⟨le_refl 1,zero_le _⟩
 ·rintro x T' ⟨y,T2,⟨rfl,rfl⟩,rfl,rfl⟩
  have hb:VT.back (sP lk lk2 es es2 ck ck2 (l.map bf).length (l.map bf).flatten) [3] [] ⟨[.row ((l.mergeSort sO).map bf).flatten],[]⟩=sP lk lk2 es es2 ck ck2 (l.map bf).length ((l.mergeSort sO).map bf).flatten:=by
   simp only [VT.back,sP,length_cons,map_cons,map_nil,e1,aS]
   simp [aS]
  rw [hb]
  exact hk
theorem Ih {lk lk2:Value→Option TV}{es es2:List (Value × TV × Nat)}{ck ck2:Nat}{S:List aO}{st:List Nat}{R:cN}(h:SitesOk lk es ck S st)(h2:RepsOk lk2 es2 R)(n:Int):
  VCx prog ae 0 jJ [.ptr 0 0,.val (.int .i64 n)] (sT lk lk2 es es2 ck ck2) λx T'=>x=.vec 3 ((dd S R n).map bf) .none∧T'=sT lk lk2 es es2 ck ck2:=by
 have hal:∀ro ys T K,rz (sT lk lk2 es es2 ck ck2).objs [.ptr 0 0] (.vec 3 ((bC S).map bf) .none) ro ys T K→VCx prog ae ro pd ys T K:=
  ze h h2 rfl (λf g=>by simp only [TV.ren,fj,Tok.ren]) (Hx h λf g=>h2.ren ck2 f g)
 have hlb:(bC S).length≤8:=by unfold bC;rw [length_map,lY];exact h.few
 have hla:(eK S R n).length≤8:=le_trans (List.length_filter_le _ _) hlb
 have e1:=h.ren (ai 3) (ai 0)
 have e2:=h2.ren ck2 (ai 3) (ai 0)
 unfold kI at e1 e2
 have hloop:=GF (ck2:=ck2) h h2 n
 by_cases hL:eK S R n= []
 ·have hS:dd S R n= []:=by rw [dd,hL];simp
  rw [hL] at hloop
  refine VCx.keepQ 3 0 (le_refl _) (le_refl _) (an ah ag (aJ λp hp=> ?_) hloop (Ia lk lk2 es es2 ck ck2 ((bC S).map bf) n _) ?_)
  ·simp only [mem_cons,not_mem_nil,or_false] at hp
   rcases hp with rfl | rfl
   ·exact hal
   ·exact Ig
  ·refine ⟨⟨rfl,rfl,rfl⟩,rfl,⟨rfl,rfl,rfl,⟨rfl,trivial⟩,rfl,rfl,rfl⟩,⟨rfl,rfl⟩,?_,?_⟩
   ·rw [hS];rfl
   ·simp only [VT.keep,take_succ_cons,take_zero,map_cons,map_nil,e1,e2,sT,kI]
    rfl
 ·have hpos:0<((eK S R n).map bf).length:=by rw [length_map];exact List.length_pos_iff.2 hL
  have hlen:((dd S R n).map bf).length=((eK S R n).map bf).length:=by simp [dd,length_mergeSort]
  have hlp:dS prog ae (Fh lk lk2 es es2 ck ck2 n ((bC S).map bf) ((eK S R n).map bf) (av prog jJ 0)):=cn λp hp=>by
   obtain rfl:=mem_singleton.1 hp
   refine sN (vs1:=jd n ((bC S).map bf) ((eK S R n).map bf) ((bC S).map bf).length) rfl rfl hpos (Ex _) (Ey h h2) ?_
   intro K hK
   exact xt h h2 n K hK
  refine VCx.keepQ 3 0 (le_refl _) (le_refl _) ((VCx.freeze (size:=3) (es:=(dd S R n).map bf) (Q:=λT'=>T'.keep 3 0=sT lk lk2 es es2 ck ck2) (an ah ag (aJ λp hp=> ?_) hlp (Ib lk lk2 es es2 ck ck2 ((bC S).map bf) ((eK S R n).map bf) ((dd S R n).map bf) n _) ?_)).mono ?_)
  ·simp only [mem_cons,not_mem_nil,or_false] at hp
   rcases hp with rfl | rfl
   ·exact hal
   ·exact J4 h h2 (eK S R n) hla λs hs=>(Cv hs).2.1
  ·refine ⟨⟨rfl,rfl,rfl⟩,rfl,⟨rfl,rfl,rfl,⟨rfl,trivial⟩,rfl,rfl,rfl,rfl⟩,⟨rfl,rfl,rfl⟩,3,0,_,rfl,?_,?_⟩
   ·rw [←hlen];exact kg rfl (GH _)
   ·simp only [VT.kill,VT.keep,set_cons_succ,set_cons_zero,take_succ_cons,take_zero,map_cons,map_nil,e1,e2,sT,kI]
    rfl
  ·rintro x T' ⟨rfl,hq⟩
   exact ⟨by simp only [TV.ren,fj,Tok.ren],hq⟩
end
section
open Go.RowKit Go.Sort Go.Shelf
theorem xA:∃inf:TypeInfo,prog.info? 150=some inf∧inf.size=3∧inf.bytes+1≤1000∧inf.zero=some (.agg #[.int .i64 0,.int .i64 0,.int .u64 0]):=
 ⟨(prog.info? 150).getD default,by kernel_rfl,by kernel_rfl,Nat.le_of_ble_eq_true (by kernel_rfl),by kernel_rfl⟩
theorem xB:∃inf:TypeInfo,prog.info? 56=some inf∧inf.size=3∧inf.bytes+1≤1000∧inf.zero=some (.agg #[.int .i64 0,.int .u32 0,.int .i64 0]):=
 ⟨(prog.info? 56).getD default,by kernel_rfl,by kernel_rfl,Nat.le_of_ble_eq_true (by kernel_rfl),by kernel_rfl⟩
theorem nM {x i:Operand}{l:List (Nat × TV)}{L:List (List TV)}{tok:Tok}{k:IntKind}{z:Int}{e:List TV}(hx:au ae l x=.vec 3 L tok)(hz:au ae l i=.val (.int k z))(h0:0≤z)(he:L[z.toNat]?=some e):
  aI prog ae (.indexAddr 22 x i) l (.elt e):=by
 obtain ⟨inf,i1,i2,_,_⟩:=xB
 exact dH (inf:=inf) Tryz.underlying22 i1 (by rw [i2];exact hx) hz h0 he
theorem Ez {x i:Operand}{l:List (Nat × TV)}{L:List (List TV)}{tok:Tok}{k:IntKind}{z:Int}{e:List TV}(hx:au ae l x=.vec 3 L tok)(hz:au ae l i=.val (.int k z))(h0:0≤z)(he:L[z.toNat]?=some e):
  aI prog ae (.indexAddr 147 x i) l (.elt e):=by
 obtain ⟨inf,i1,i2,_,_⟩:=xA
 exact dH (inf:=inf) Tryz.underlying147 i1 (by rw [i2];exact hx) hz h0 he
theorem EA {ro:Nat}{T T1:VT}{s x:Operand}{l:List (Nat × TV)}{es es2:List (List TV)}{k n:Nat}{bn:Bool}(hs:ct T 3 (au ae l s)=some (es,k,n,bn,T1))(hx:gv 3 (au ae l x)=some es2)(hb:es.length+es2.length≤3000):
    aN prog ae ro T (.call ⟨.builtin .append,#[s,x],#[147,147]⟩) l (.vec 3 (es++es2) (.tail k (n+es2.length))) {T1 with tails:=T1.tails.set k (n+es2.length,3,bn)}:=by
  obtain ⟨inf,i1,i2,i3,i4⟩:=xA
  have h:=iw (inf:=inf) (P:=prog) (G:=ae) (ro:=ro) (T:=T) (T1:=T1) (t:=147) (tx:=147) (s:=s) (x:=x) (l:=l) (es:=es) (es2:=es2) (k:=k) (n:=n) (bn:=bn) Tryz.underlying147 i1 i4 (by rw [i2];rfl) (by rw [i2];decide) (by kernel_rfl) (by rw [i2];exact hs) (by rw [i2];exact hx)
    (by have h1:=i3
        have h2:=Nat.mul_le_mul hb h1
        omega)
  rw [i2] at h
  exact h
theorem A2 {G:aC}(l:List Bk)(hl:l.length<4611686018427387904):VCx prog G 0 zc [.row 3 0 0 l.length,.fn (.func pn) [] []] ⟨[.row (l.map bs).flatten],[]⟩ λx T'=>x=.val (.tuple #[])∧T'=⟨[.row ((dc l).map bs).flatten],[]⟩:=by
 rw [kf,kf]
 intro g w us r hG hx
 match us,hx.1 with
 |[u,f],_=>
  obtain ⟨b,c,f1,f2,f3,f4,f5,rfl⟩:=(hx.2 0 _ u rfl rfl).row_inv
  obtain ⟨us,vs,rfl,h3,h4⟩:=(hx.2 1 _ f rfl rfl).fn_inv
  have e3:us= []:=eq_nil_of_length_eq_zero h3.1
  have e4:vs= []:=eq_nil_of_length_eq_zero h4.1
  subst e3 e4
  obtain ⟨b',q1,⟨us,ty,q2,q3,q4,q5⟩,_⟩:=r.obj 0 _ rfl rfl
  rw [f1] at q1;injection q1 with q1;subst q1
  have hfix:∀(T':VT) (w':World),T'.objs.length=1→Fix 0 g ⟨[.row ((l.flatMap fh).map .val)],[]⟩ w T' w':=λT' w' h=>⟨by simp [h],λi hi=>absurd hi (not_lt_zero i),λi o b hi=>absurd hi (not_lt_zero i)⟩
  rcases Nat.eq_zero_or_pos l.length with h0 | hpos
  ·have:l= []:=eq_nil_of_length_eq_zero h0
   subst this
   refine (AnyF.slices_SortFunc_none Tryz.sortSeat (some ⟨b,0*3,none⟩) c _ w).mono λe w' ⟨he,hw⟩=> ?_
   subst hw
   exact ⟨.tuple #[],_,g,_,he,⟨rfl,by simp [dc]⟩,Evo.refl _ _,r,.val _,hfix _ _ rfl⟩
  ·have hcs:=aY q2
   rw [List.size_toArray] at hcs
   have hul:us.length=c*3:=by rw [←hcs,←f5];omega
   have htk:us.take (l.length*3)=l.flatMap fh:=by
    have hlen:((l.flatMap fh).map TV.val).length=l.length*3:=by rw [length_map,gj fh 3 iy]
    rw [hlen] at q4
    exact lV (by simp [bM,comp_def]) q4
   have hown:w.ownsRow 0 ty 3 (.slice (some ⟨b,0,none⟩) l.toArray.size c) l.toArray.size (l.toArray.toList.flatMap fh):=by
    refine ⟨by simp [gj fh 3 iy],.inr ⟨b,c,us.toArray,by simp,zero_le _,q2,by simpa using f3,f4,by simpa using hul,?_⟩⟩
    simpa [gj fh 3 iy] using htk
   obtain ⟨g',cap',hv,hb',hg',hH⟩:=uY fh 3 iy l.toArray hown (by simpa using hpos)
   injection hv with p1 _ p3
   injection p1 with p1;injection p1 with p1
   subst p1 p3
   have hs:l.toArray.size<4611686018427387904:=by simpa using hl
   have eg:∀args w,(callFunc pn args).run prog w=.ok (.enter pn args) w:=enters_of func92 (by kernel_rfl) rfl
   have hcon:=AnyQ.slices_SortFunc_total Tryz.sortSeat 3 Tryz.isAgg150 Tryz.sizeOf150 fh iy u4 fg Er pn #[] b 0 c l.toArray w eg (Et b 0 _ w) hH hg' hs AV
   refine mono hcon λ_ _ ⟨he,n,os,hw⟩=> ?_
   obtain ⟨e1,r1⟩:=xu fh 3 iy u4 (l:=l) (l':=dc l) (uZ l) r rfl f1 hw
   exact ⟨.tuple #[],_,g,_,he,⟨rfl,rfl⟩,e1,r1,.val _,hfix _ _ rfl⟩
theorem Ii {G:aC}:∀ro ys T K,H3 ro ys T K→VCx prog G ro zc ys T K:=by
 rintro ro ys T K ⟨⟨rfl,rfl⟩,hk⟩ g w us r hG hx
 have hl:=hx.1
 match us,hl with
 |[u,f],_=>
  obtain ⟨us,vs,rfl,h3,h4⟩:=(hx.2 1 _ f rfl rfl).fn_inv
  have e3:us= []:=eq_nil_of_length_eq_zero h3.1
  have e4:vs= []:=eq_nil_of_length_eq_zero h4.1
  subst e3 e4
  have key:∀p c,Calls prog zc #[.slice p 0 c,.func (.func pn) #[] #[]] w λe w'=>∃v x g' T',e=.returned v∧K x T'∧Evo g w g' w'∧RW g' T' w'∧VR g' w' x v∧Fix 0 g T w T' w':=λp c=>
   (AnyF.slices_SortFunc_none Tryz.sortSeat p c _ w).mono λe w' ⟨he,hw⟩=>by
    subst hw
    exact ⟨.tuple #[],_,g,_,he,hk,Evo.refl _ _,r,.val _,Fix.refl _ _ _ _⟩
  rcases (hx.2 0 _ u rfl rfl).vec_inv with ⟨rfl,_⟩ | ⟨b,o,c,us,rfl,_⟩ | ⟨a,rfl,_⟩
  ·exact key none 0
  ·exact key _ c
  ·exact key _ 0
theorem xC (f g:Nat→Option Nat)(l:List Bk):VO.ren f g (.row (l.map bs).flatten)=.row (l.map bs).flatten:=by
 have:ay f g (l.map bs).flatten=(l.map bs).flatten:=by
  rw [kf];exact up _ _ _
 simp only [VO.ren,this]
section
variable (p s d sp dp:Int)
theorem GI (f g:Nat→Option Nat):ay f g (bV p s d sp dp)=bV p s d sp dp:=rfl
theorem Ij (l:List Bk)(hl:l.length≤1000):∀ro ys T K,KN (nL (bV p s d sp dp) (l.map bs).length (l.map bs).flatten) (nL (bV p s d sp dp) (l.map bs).length ((dc l).map bs).flatten) (l.map bs).length ro ys T K→VCx prog ae ro zc ys T K:=by
 rintro ro ys T K ⟨⟨rfl,rfl,rfl⟩,hk⟩
 have hs:=A2 (G:=ae) l (by omega)
 rw [show l.length=(l.map bs).length by simp] at hs
 refine (VCx.lift (xs:= [.row 3 0 0 (l.map bs).length,.fn (.func pn) [] []]) [1] [] bc (by decide) nodup_nil (λk hk=> ?_) (by simp) (λ_ _=>zero_le _) rfl ?_ (Q:=λx T'=>x=.val (.tuple #[])∧T'=⟨[.row ((dc l).map bs).flatten],[]⟩) (λx T' hq=> ?_)).mono ?_
 ·simp only [mem_cons,not_mem_nil,or_false] at hk
  subst hk
  exact ⟨_,rfl,rfl⟩
 ·have hg:VT.give (nL (bV p s d sp dp) (l.map bs).length (l.map bs).flatten) [1] []=⟨[.row (l.map bs).flatten],[]⟩:=by
   simp only [VT.give,nL,map_cons,map_nil,getElem?_cons_zero,getElem?_cons_succ,getD_some,xC]
  rw [hg]
  exact hs
 ·rw [hq.2];exact ⟨le_refl 1,zero_le _⟩
 ·rintro x T' ⟨y,T2,⟨rfl,rfl⟩,rfl,rfl⟩
  have hb:VT.back (nL (bV p s d sp dp) (l.map bs).length (l.map bs).flatten) [1] [] ⟨[.row ((dc l).map bs).flatten],[]⟩=nL (bV p s d sp dp) (l.map bs).length ((dc l).map bs).flatten:=by
   simp only [VT.back,nL,length_cons,map_cons,map_nil,xC,aS]
   simp [aS]
  rw [hb]
  exact hk
theorem A3 (l:List Bk):∀c∈(l.map bs).flatten,FreeT c:=λc hc=>by
 rw [kf] at hc
 obtain ⟨v,_,rfl⟩:=mem_map.1 hc
 exact .val _
theorem EB (key:Int)(l:List Bk)(hl:l.length≤1000)(hky:key=ju p s d sp dp)(K:KX)(hK:K .normal (ax 38 u6 (pp key (l.map aA) ((ba key 0 l).map bs) (l.map aA).length)) (qN (bV p s d sp dp) ((ba key 0 l).map bs).length) []):
  VWx prog ae none 0 (av prog j3 0) (ax 38 u6 (pp key (l.map aA) [] 0)) (qN (bV p s d sp dp) 0) [] K:=by
 let A:Nat→List (List TV):=λj=>(ba key 0 (l.take j)).map bs
 let sl:Nat→List TV:=λj=>pp key (l.map aA) (A j) j
 let TT:Nat→VT:=λj=>qN (bV p s d sp dp) (A j).length
 refine fc (f:=j3) (id:=0) (by kernel_rfl) 38 u6 (λj=>l.length-j) sl TT (λj=>j≤l.length) 1 1 (λ_ _=>⟨le_refl _,le_refl _⟩)
  (λe vs T=>e=.normal∧vs=sl l.length∧T=TT l.length) (λj hj=> ?_) 0 (zero_le _) K (λe vs T ⟨h1,h2,h3⟩=> ?_)
 ·have hC:aT prog ae (aE [(KM,AZ key λi w=>bx key i w)]):=aJ λq hq=>by
   obtain rfl:=mem_singleton.1 hq
   intro ro ys T K h
   have h':AZ key (λi w=>bx key i w) ro ys T K:=h
   clear h
   unfold AZ at h'
   split at h'
   ·obtain ⟨rfl,hk⟩:=h'
    exact VCx.liftPure bc (VCx.ofCalls rfl (H0 _ _ _) λ_ _=>rfl) rfl (λ_ _=>rfl) hk
   ·exact h'.elim
  by_cases hlt:j<l.length
  ·obtain ⟨b,hb⟩:∃b,l[j]?=some b:=⟨_,getElem?_eq_getElem hlt⟩
   have hstep:=AW key l j b hb
   have hlen:=nJ key (l.take j) 0
   have hlen2:(l.take j).length≤l.length:=by simp;omega
   have hw:=fL j (by omega)
   have hAl:(A j).length≤1000:=by simp only [A,length_map];omega
   refine cj ah ag hC ak (Co p s d sp dp key b.1 b.2.1 b.2.2 (λi w=>bx key i w) (l.map aA) (A j) j _) ?_
   refine aL (decide_eq_true (by simp only [length_map];omega)) ⟨nM rfl rfl (Int.natCast_nonneg _) (by simp only [Int.toNat_natCast,getElem?_map,hb];rfl),aM (λhwt=> ?_) (λhwt=> ?_)⟩
   ·have hwt':0<b.2.2:=by simpa using hwt
    rw [if_pos hwt'] at hstep
    have hst:A (j+1)=A j++ [xr j b.1 (bx key b.1 b.2.2)]:=by simp only [A,hstep,map_append];rfl
    refine ⟨rfl,EA (T1:=⟨[.cells (bV p s d sp dp),.cells (AY b.1 b.2.1 b.2.2)],[((A j).length,3,true)]⟩) (es2:= [xr j b.1 (bx key b.1 b.2.2)]) (by simp [au,dL,ct,bV,AY]) rfl (by simp only [length_cons,length_nil];omega),rfl,rfl,j+1,hlt,by simp only;omega,.inr ⟨?_,?_⟩⟩
    ·simp only [TT,hst,length_append,length_cons,length_nil];rfl
    ·have e3:(A j).length+1=(A (j+1)).length:=by rw [hst];simp
     rw [←hst,e3]
     simp only [A,ay,TV.ren,jF,lZ,Tok.ren]
     simp only [sl,pp,hw]
     rfl
   ·have hwt':¬0<b.2.2:=by simpa using hwt
    rw [if_neg hwt',append_nil] at hstep
    have hst:A (j+1)=A j:=by simp only [A,hstep]
    refine ⟨rfl,rfl,j+1,hlt,by simp only;omega,.inr ⟨?_,?_⟩⟩
    ·simp only [TT,hst];rfl
    ·rw [←hst]
     simp only [A,ay,TV.ren,jF,lZ,Tok.ren]
     simp only [sl,pp,hw]
     rfl
  ·obtain rfl:j=l.length:=by omega
   refine cj ah ag hC ak (Co p s d sp dp key 0 0 0 (λi w=>bx key i w) (l.map aA) (A l.length) l.length _) ?_
   exact az (decide_eq_false (by simp)) ⟨rfl,rfl,rfl,rfl,rfl⟩
 ·subst h1 h2 h3
  have e1:sl l.length=pp key (l.map aA) ((ba key 0 l).map bs) (l.map aA).length:=by simp only [sl,A,take_length,length_map]
  have e2:TT l.length=qN (bV p s d sp dp) ((ba key 0 l).map bs).length:=by simp only [TT,A,take_length]
  rw [e1,e2]
  exact hK
theorem Ik (l:List Bk)(hl:l.length≤1000):VCx prog ae 0 j3 [.agg (bV p s d sp dp),.vec 3 (l.map aA) .none] ⟨[],[]⟩ λx T'=>x=.vec 3 ((dc (ba (ju p s d sp dp) 0 l)).map bs) .none∧T'=⟨[],[]⟩:=by
 have hkv:∀ro ys T K,Eu (bV p s d sp dp) (ju p s d sp dp) ro ys T K→VCx prog ae ro H2 ys T K:=by
  rintro ro ys T K ⟨rfl,hk⟩
  exact VCx.liftPure bc (VCx.ofCalls rfl (Ll p s d sp dp) λ_ _=>rfl) rfl (λ_ _=>rfl) hk
 have hround:=EB p s d sp dp (ju p s d sp dp) l hl rfl
 have hsl:=nJ (ju p s d sp dp) l 0
 generalize ju p s d sp dp=key at*
 by_cases hL:ba key 0 l= []
 ·have hS:dc (ba key 0 l)= []:=by rw [hL];simp [dc]
  rw [hL] at hround
  refine VCx.keepQ 0 0 (le_refl _) (le_refl _) (an ah ag (aJ λq hq=> ?_) (cn λq hq=>by obtain rfl:=mem_singleton.1 hq;exact dy λK hK=>hround K hK) (H5 p s d sp dp key (l.map aA) _) ?_)
  ·simp only [mem_cons,not_mem_nil,or_false] at hq
   rcases hq with rfl | rfl
   ·exact hkv
   ·exact Ii
  ·refine ⟨rfl,rfl,⟨rfl,rfl,rfl,⟨rfl,trivial⟩,rfl,rfl,rfl⟩,⟨rfl,rfl⟩,?_,rfl⟩
   rw [hS];rfl
 ·have hpos:0<((ba key 0 l).map bs).length:=by rw [length_map];exact List.length_pos_iff.2 hL
  have hlen:((dc (ba key 0 l)).map bs).length=((ba key 0 l).map bs).length:=by simp [uZ]
  have hlp:dS prog ae (H4 (bV p s d sp dp) key (l.map aA) ((ba key 0 l).map bs) (av prog j3 0)):=cn λq hq=>by
   obtain rfl:=mem_singleton.1 hq
   refine sN (vs1:=pp key (l.map aA) ((ba key 0 l).map bs) (l.map aA).length) rfl rfl hpos (A3 _) (λo ho=> ?_) (λK hK=>hround K hK)
   simp only [qN,mem_cons,not_mem_nil,or_false] at ho
   subst ho
   intro c hc
   simp only [bV,mem_cons,not_mem_nil,or_false] at hc
   rcases hc with rfl | rfl | rfl | rfl | rfl<;>exact .val _
  refine VCx.keepQ 0 0 (le_refl _) (le_refl _) ((VCx.freeze (size:=3) (es:=(dc (ba key 0 l)).map bs) (Q:=λT'=>T'.keep 0 0=⟨[],[]⟩) (an ah ag (aJ λq hq=> ?_) hlp (H6 p s d sp dp key (l.map aA) ((ba key 0 l).map bs) ((dc (ba key 0 l)).map bs) _) ?_)).mono ?_)
  ·simp only [mem_cons,not_mem_nil,or_false] at hq
   rcases hq with rfl | rfl
   ·exact hkv
   ·exact Ij p s d sp dp _ (by omega)
  ·refine ⟨rfl,rfl,⟨rfl,rfl,rfl,⟨rfl,trivial⟩,rfl,rfl,rfl,rfl⟩,⟨rfl,rfl,rfl⟩,1,0,_,rfl,?_,rfl⟩
   rw [←hlen];exact kg rfl (λe he=>by obtain ⟨x,_,rfl⟩:=mem_map.1 he;rfl)
  ·rintro x T' ⟨rfl,hq⟩
   exact ⟨by simp only [TV.ren,lZ,Tok.ren],hq⟩
def gF (key:Int)(l:List Bk):Option Bk:=match dc (ba key 0 l) with
 |[]=>none
 |h::_=>l[h.1.toNat]?
theorem sR (key:Int):∀(l:List Bk) (k:Nat) (x:Bk),x∈ba key k l→∃j b,l[j]?=some b∧x=(((k+j:Nat):Int),b.1,bx key b.1 b.2.2)∧0<b.2.2
 |[],_,_,h=>by simp [ba] at h
 |b::l,k,x,h=>by
  unfold ba at h
  have rest:x∈ba key (k+1) l→∃j b',(b::l)[j]?=some b'∧x=(((k+j:Nat):Int),b'.1,bx key b'.1 b'.2.2)∧0<b'.2.2:=λh=>by
   obtain ⟨j,b',h1,h2,h3⟩:=sR key l (k+1) x h
   exact ⟨j+1,b',by simpa using h1,by rw [h2];congr 2;omega,h3⟩
  split at h
  ·rcases mem_cons.1 h with rfl | h
   ·exact ⟨0,b,rfl,by simp,by assumption⟩
   ·exact rest h
  ·exact rest h
theorem pq (key:Int):∀(l:List Bk) (k:Nat) (b:Bk),b∈l→0<b.2.2→∃j:Int,(j,b.1,bx key b.1 b.2.2)∈ba key k l
 |[],_,_,h,_=>by simp at h
 |a::l,k,b,h,hw=>by
  unfold ba
  rcases mem_cons.1 h with rfl | h
  ·exact ⟨k,by rw [if_pos hw];exact mem_cons_self⟩
  ·obtain ⟨j,hj⟩:=pq key l (k+1) b h hw
   refine ⟨j,?_⟩
   split
   ·exact mem_cons_of_mem _ hj
   ·exact hj
theorem pt {key:Int}{l:List Bk}{h:Bk}{r:List Bk}(e:dc (ba key 0 l)=h::r):∃b,l[h.1.toNat]?=some b∧0≤h.1∧h=(h.1,b.1,bx key b.1 b.2.2)∧0<b.2.2∧∀y∈ba key 0 l,y.2.2≤h.2.2:=by
 have hp:(dc (ba key 0 l)).Perm (ba key 0 l):=List.mergeSort_perm _ _
 have hm:h∈ba key 0 l:=hp.mem_iff.1 (by rw [e];exact mem_cons_self)
 obtain ⟨j,b,h1,h2,h3⟩:=sR key l 0 h hm
 rw [zero_add] at h2
 refine ⟨b,by rw [h2];simpa using h1,by rw [h2];simp,by rw [h2],h3,λy hy=> ?_⟩
 have hso:(dc (ba key 0 l)).Pairwise λa b=>(!(ltOf fg) b a)=true:=List.pairwise_mergeSort (le:=λx y=> !(ltOf fg) y x) (λa b c h1 h2=>by
   simp only [not_eq_true',ic] at*;omega) (λa b=>by
   have:=ic a b;have:=ic b a
   cases h1:ltOf fg b a<;>cases h2:ltOf fg a b<;>simp
   have q1:=(qf b a).1 h1;have q2:=(qf a b).1 h2;omega) _
 rw [e] at hso
 have hy':y∈h::r:=by rw [←e];exact hp.mem_iff.2 hy
 rcases mem_cons.1 hy' with rfl | hy'
 ·exact Int.le_refl _
 ·have:=(List.pairwise_cons.1 hso).1 y hy'
  simp only [not_eq_true',ic] at this
  omega
theorem Cw {key:Int}{l:List Bk}{b:Bk}(h:gF key l=some b):b∈l∧0<b.2.2∧∀y∈l,0<y.2.2→bx key y.1 y.2.2≤bx key b.1 b.2.2:=by
 unfold gF at h
 cases e:dc (ba key 0 l) with
 |nil=>rw [e] at h;cases h
 |cons hd r=>
  rw [e] at h
  obtain ⟨b',h1,_,h2,h3,h4⟩:=pt e
  simp only [h1,Option.some.injEq] at h
  subst h
  refine ⟨mem_of_getElem? h1,h3,λy hy hw=> ?_⟩
  obtain ⟨j,hj⟩:=pq key l 0 y hy hw
  have h5:=h4 _ hj
  rw [h2] at h5
  exact h5
theorem Cx {key:Int}{l:List Bk}(h:gF key l=none):∀y∈l,¬0<y.2.2:=by
 intro y hy hw
 obtain ⟨j,hj⟩:=pq key l 0 y hy hw
 unfold gF at h
 cases e:dc (ba key 0 l) with
 |nil=>
  have hp:(dc (ba key 0 l)).Perm (ba key 0 l):=List.mergeSort_perm _ _
  rw [e] at hp
  rw [←hp.mem_iff] at hj
  cases hj
 |cons hd r=>
  rw [e] at h
  obtain ⟨b',h1,_⟩:=pt e
  simp only [h1] at h
  cases h
def KQ (o:Option Bk):TV:=.tup [.agg (aA (o.getD (0,0,0))),.val (.bool o.isSome)]
theorem Il (l:List Bk)(hl:l.length≤1000):VCx prog ae 0 Cn [.agg (bV p s d sp dp),.vec 3 (l.map aA) .none] ⟨[],[]⟩ λx T'=>x=KQ (gF (ju p s d sp dp) l)∧T'=⟨[],[]⟩:=by
 have hse:=Ik p s d sp dp l hl
 generalize ju p s d sp dp=key at*
 have hC:∀R:List Bk,dc (ba key 0 l)=R→aT prog ae (aE [(j3,fu [.agg (bV p s d sp dp),.vec 3 (l.map aA) .none] (.vec 3 (R.map bs) .none))]):=λR hR=>aJ λq hq=>by
  obtain rfl:=mem_singleton.1 hq
  rintro ro ys T K ⟨rfl,hk⟩
  exact VCx.liftPure bc (by rw [hR] at hse;exact hse) (by simp only [ay,TV.ren,GI,jF,Tok.ren]) (λ_ _=>by simp only [TV.ren,lZ,Tok.ren]) hk
 cases e:dc (ba key 0 l) with
 |nil=>
  refine VCx.keepQ 0 0 (le_refl _) (le_refl _) (an ah ag (hC [] e) ak (H7 p s d sp dp (l.map aA) _) ?_)
  refine ⟨rfl,?_,rfl⟩
  unfold gF;rw [e];rfl
 |cons h r=>
  obtain ⟨b,h1,h0,h2,_⟩:=pt e
  refine VCx.keepQ 0 0 (le_refl _) (le_refl _) (an ah ag (hC (h::r) e) ak (H8 p s d sp dp h.1 h.2.1 h.2.2 b.1 b.2.1 b.2.2 (l.map aA) (r.map bs) _) ?_)
  refine ⟨rfl,Ez rfl rfl (by decide) rfl,nM rfl rfl h0 (by rw [getElem?_map,h1];rfl),?_,rfl⟩
  unfold gF;rw [e];simp only [h1];rfl
end
end
section
open Go.RowKit Go.Maps Go.Sort
def cO:List Mb→List Nat→Nat→Mb
 |m::S,b::st,s=>bif beq b s then m else cO S st s
 |_,_,_=>E9
def zf (S:List Mb)(st:List Nat):Es:=zipWith (λs b=>(aB (bh s),l4 s,b)) S st
theorem Cy {a b:Nat}(h:a≠b):beq a b=false:=by
 cases hb:beq a b with
 |false=>rfl
 |true=>exact absurd (Nat.eq_of_beq_eq_true hb) h
theorem tW:∀{S:List Mb} {st:List Nat},st.length=S.length→st.Nodup→st.map (cO S st)=S
 |[],[],_,_=>rfl
 |[],_::_,h,_=>by simp at h
 |_::_,[],h,_=>by simp at h
 |m::S,b::st,h,hd=>by
  obtain ⟨h1,h2⟩:=List.nodup_cons.1 hd
  have ih:=tW (S:=S) (st:=st) (by simpa using h) h2
  have e0:cO (m::S) (b::st) b=m:=by simp only [cO,beq_refl,cond_true]
  rw [map_cons,e0]
  congr 1
  refine (List.map_congr_left λs hs=> ?_).trans ih
  have:beq b s=false:=Cy λe=>h1 (e▸hs)
  simp only [cO,this,cond_false]
theorem Fk:∀{S:List Mb} {st:List Nat} {k:Value} {v:TV} {s:Nat},st.length=S.length→st.Nodup→(k,v,s)∈zf S st→k=aB (bh (cO S st s))∧v=l4 (cO S st s)∧s∈st∧cO S st s∈S∧(zf S st).find? (λx=>beq x.2.2 s)=some (k,v,s)
 |[],_,_,_,_,_,_,h=>by simp [zf] at h
 |_::_,[],_,_,_,h,_,_=>by simp at h
 |m::S,b::st,k,v,s,h,hd,hm=>by
  obtain ⟨h1,h2⟩:=List.nodup_cons.1 hd
  have hz:zf (m::S) (b::st)=(aB (bh m),l4 m,b)::zf S st:=rfl
  rw [hz] at hm ⊢
  rcases mem_cons.1 hm with he | hm
  ·injection he with e1 e2;injection e2 with e2 e3
   subst e1 e2 e3
   have e0:cO (m::S) (s::st) s=m:=by simp only [cO,beq_refl,cond_true]
   rw [e0,List.find?_cons]
   exact ⟨rfl,rfl,mem_cons_self,mem_cons_self,by simp only [beq_refl]⟩
  ·obtain ⟨q1,q2,q3,q4,q5⟩:=Fk (S:=S) (st:=st) (by simpa using h) h2 hm
   have hb:beq b s=false:=Cy λe=>h1 (e▸q3)
   have e0:cO (m::S) (b::st) s=cO S st s:=by simp only [cO,hb,cond_false]
   rw [e0,List.find?_cons]
   exact ⟨q1,q2,mem_cons_of_mem _ q3,mem_cons_of_mem _ q4,by simp only [hb];exact q5⟩
theorem kG {z:Int}(h0:-1000000000000000≤z)(h1:z≤1000000000000000):i64.wrap z=z:=by
 simp only [wrap,IntKind.bits,IntKind.signed];simp;omega
section
variable {n:Int}{lk:Value→Option TV}{es:Es}{ck:Nat}{S:List Mb}{st:List Nat}
theorem PoOk.zw (h:PoOk lk es ck S st):es=zf S st:=h.m.ents
theorem PoOk.lost (h:PoOk lk es ck S st)(seen:List Nat):fT seen ck es=false:=by
 unfold fT
 cases he:es with
 |nil=>simp
 |cons e l=>
  have h0:e.2.2∈es.map (·.2.2):=by rw [he];exact mem_cons_self
  rw [h.m.stamps] at h0
  have:=h.m.born _ h0
  have h1:decide (ck≤e.2.2)=false:=decide_eq_false (by omega)
  simp [h1]
theorem PoOk.nx (h:PoOk lk es ck S st){seen:List Nat}{k:Value}{v:TV}{s:Nat}(hx:tU k v s ck seen es):(k,v,s)∈es∧s∉seen:=by
 unfold tU at hx
 have hn:gB ck seen es= []:=by
  unfold gB
  refine List.filter_eq_nil_iff.2 λe he=> ?_
  have h0:e.2.2∈es.map (·.2.2):=mem_map_of_mem (f:=λe:Value × TV × Nat=>e.2.2) he
  rw [h.m.stamps] at h0
  have:=h.m.born _ h0
  simp [this]
 rw [hn,append_nil] at hx
 unfold cg at hx
 obtain ⟨h1,h2⟩:=List.mem_filter.1 hx
 refine ⟨h1,?_⟩
 simp at h2
 exact h2.1
theorem PoOk.no (h:PoOk lk es ck S st){seen:List Nat}(hx:xg ck seen es):∀s∈st,s∈seen:=by
 intro s hs
 rw [←h.m.stamps] at hs
 obtain ⟨e,he,rfl⟩:=mem_map.1 hs
 have:=List.filter_eq_nil_iff.1 hx e he
 have h0:e.2.2∈es.map (·.2.2):=mem_map_of_mem (f:=λe:Value × TV × Nat=>e.2.2) he
 rw [h.m.stamps] at h0
 have hb:=h.m.born _ h0
 simp [hb] at this
 exact this
def WtInv (st seen:List Nat):Prop:=seen.Nodup∧∀s∈seen,s∈st
theorem WtInv.le {seen:List Nat}(h:WtInv st seen):seen.length≤st.length:=h.1.length_le_of_subset h.2
theorem WtInv.done (h:PoOk lk es ck S st){seen:List Nat}(hi:WtInv st seen)(hx:xg ck seen es)(p:Mb→Bool):bz p (seen.map (cO S st))=bz p S:=by
 have hp:seen.Perm st:=(List.perm_ext_iff_of_nodup hi.1 h.m.borns).2 λa=>⟨hi.2 a,h.no hx a⟩
 rw [B8 (hp.map (cO S st)),tW h.m.slen h.m.borns]
theorem nN (h:PoOk lk es ck S st)(seen:List Nat)(l:List VO):VT.keep ⟨(jH n lk es ck seen).objs++l,[]⟩ 3 0=jH n lk es ck seen:=by
 have e:=h.ren (ai 3) (ai 0)
 simp only [VT.keep,jH,List.cons_append,List.nil_append,take_succ_cons,take_zero,map_cons,map_nil,e]
 rfl
theorem Fm (h:PoOk lk es ck S st){seen:List Nat}(hi:WtInv st seen){k:Value}{v:TV}{s:Nat}(hx:tU k v s ck seen es):
  k=aB (bh (cO S st s))∧v=l4 (cO S st s)∧cO S st s∈S∧es.find? (λx=>beq x.2.2 s)=some (k,v,s)∧WtInv st (seen++ [s]):=by
 obtain ⟨hm,hns⟩:=h.nx hx
 have hm':=hm
 rw [h.zw] at hm'
 obtain ⟨q1,q2,q3,q4,q5⟩:=Fk h.m.slen h.m.borns hm'
 rw [h.zw]
 exact ⟨q1,q2,q4,q5,List.nodup_append.2 ⟨hi.1,by simp,λa ha b hb e=>by
  rw [mem_singleton.1 hb] at e
  exact hns (e▸ha)⟩,λa ha=>by
  rcases List.mem_append.1 ha with ha | ha
  ·exact hi.2 a ha
  ·rw [mem_singleton.1 ha];exact q3⟩
theorem Cz (h:PoOk lk es ck S st){seen:List Nat}(hi:WtInv st seen)(p:Mb→Bool):0≤bz p (seen.map (cO S st))∧bz p (seen.map (cO S st))≤1600:=by
 have hb:=nH (p:=p) (S:=seen.map (cO S st)) λm hm=>by
  obtain ⟨s,hs,rfl⟩:=mem_map.1 hm
  have:cO S st s∈st.map (cO S st):=mem_map_of_mem (hi.2 s hs)
  rw [tW h.m.slen h.m.borns] at this
  exact h.ok.wt _ this
 have h1:=hi.le
 have h2:=h.m.slen
 have h3:=h.ok.few
 rw [length_map] at hb
 omega
theorem EC (h:PoOk lk es ck S st)(K:KX)(hK:∀seen,K .normal (ax 28 l5 (iT jG (bz dz S))) (jH n lk es ck seen) []):
  VWx prog ae none 0 (av prog eS 0) (ax 28 l5 (iT jG 0)) (jH n lk es ck []) [] K:=by
 let H:List Nat→Int:=λseen=>bz dz (seen.map (cO S st))
 let E:List Nat→Mb:=λl=>cO S st (l.getLast?.getD 0)
 refine fc (f:=eS) (id:=0) (by kernel_rfl) 28 l5 (λs:List Nat=>st.length-s.length) (λseen=>iT jG (H seen)) (λseen=>jH n lk es ck seen) (WtInv st) 3 0 (λs _=>⟨le_refl _,le_refl _⟩)
  (λe vs T=>e=.normal∧vs=iT jG (bz dz S)∧∃seen,T=jH n lk es ck seen) (λseen hs=> ?_) [] ⟨nodup_nil,λs h=>by cases h⟩ K ?_
 rotate_left
 ·rintro e vs T ⟨rfl,rfl,seen,rfl⟩
  exact hK seen
 have hL:dS prog ae (tT 1000004 (qJ 14 15 16,dA prog eS 4) 1000999 (qJ 14 15 16,dA prog eS 4)):=yY (sJ (by kernel_rfl)) (sJ (by kernel_rfl))
 refine cj ah ag aw hL (HF n lk es ck (H seen) seen (λl=>bh (E l)) (λl=>(E l).1.2.1) (λl=>(E l).1.2.2) (λl=>(E l).2.1) (λl=>(E l).2.2) _) ⟨rfl,⟨rfl,h.lost seen,rfl⟩,λhno=> ?_,λk v s hnx=> ?_⟩
 ·exact ⟨rfl,rfl,rfl,by rw [←hs.done h hno];rfl,seen,rfl⟩
 ·obtain ⟨rfl,rfl,hmS,hfind,hi2⟩:=Fm h hs hnx
  have hlast:∀l:List Nat,(l++ [s]).getLast?=some s:=λl=>by simp
  have hE:E (seen++ [s])=cO S st s:=by simp only [E,hlast,getD_some]
  have hle:=hi2.le
  have hw:=h.ok.wt _ hmS
  have hb:0≤H seen∧H seen≤1600:=Cz h hs dz
  have hst:H (seen++ [s])=H seen+bif dz (cO S st s) then (cO S st s).1.2.2 else 0:=by
   simp only [H,map_append,map_cons,map_nil];exact ru _ _
  simp only [hE]
  have hmu:st.length-(seen++ [s]).length<st.length-seen.length:=by
   simp only [length_append,length_cons,length_nil] at hle ⊢
   omega
  refine ⟨.ent _ rfl rfl ?_,?_⟩
  ·show jA _ (.ptr 2 0)=_
   simp only [jA,getElem?_cons_succ,getElem?_cons_zero,hlast,beq_refl,cond_true,hfind]
   rfl
  ·have hsum:∀u d:Bool,(cO S st s).2.1=u→(cO S st s).2.2=d→(bif dz (cO S st s) then (cO S st s).1.2.2 else 0)=bif u&& !d then (cO S st s).1.2.2 else 0:=λu d hu hd=>by simp only [dz,hu,hd]
   refine aM (λhu=>aM (λhd=> ?_) (λhd=> ?_)) (λhu=> ?_)
   ·have hd':(cO S st s).2.2=false:=by simpa using hd
    refine ⟨rfl,rfl,seen++ [s],hi2,hmu,.inr ⟨nN h (seen++ [s]) _,?_⟩⟩
    show _=iT _ (H (seen++ [s]))
    rw [hst]
    rw [hsum _ _ hu hd',kG (by omega) (by omega)];rfl
   ·have hd':(cO S st s).2.2=true:=by simpa using hd
    refine ⟨rfl,rfl,seen++ [s],hi2,hmu,.inr ⟨nN h (seen++ [s]) _,?_⟩⟩
    show _=iT _ (H (seen++ [s]))
    rw [hst]
    rw [hsum _ _ hu hd'];simp;rfl
   ·have hz:(bif dz (cO S st s) then (cO S st s).1.2.2 else 0)=0:=by simp [dz,hu]
    refine ⟨rfl,rfl,seen++ [s],hi2,hmu,.inr ⟨nN h (seen++ [s]) _,?_⟩⟩
    show _=iT _ (H (seen++ [s]))
    rw [hst]
    rw [hz,Int.add_zero];rfl
theorem ED (h:PoOk lk es ck S st)(K:KX)(hK:∀seen,K .normal (ax 28 l5 (iT rx (bz (λ_=>true) S))) (jH n lk es ck seen) []):
  VWx prog ae none 0 (av prog eS 0) (ax 28 l5 (iT rx 0)) (jH n lk es ck []) [] K:=by
 let H:List Nat→Int:=λseen=>bz (λ_=>true) (seen.map (cO S st))
 let E:List Nat→Mb:=λl=>cO S st (l.getLast?.getD 0)
 refine fc (f:=eS) (id:=0) (by kernel_rfl) 28 l5 (λs:List Nat=>st.length-s.length) (λseen=>iT rx (H seen)) (λseen=>jH n lk es ck seen) (WtInv st) 3 0 (λs _=>⟨le_refl _,le_refl _⟩)
  (λe vs T=>e=.normal∧vs=iT rx (bz (λ_=>true) S)∧∃seen,T=jH n lk es ck seen) (λseen hs=> ?_) [] ⟨nodup_nil,λs h=>by cases h⟩ K ?_
 rotate_left
 ·rintro e vs T ⟨rfl,rfl,seen,rfl⟩
  exact hK seen
 have hL:dS prog ae (tT 1000004 (qJ 14 15 16,dA prog eS 4) 1000999 (qJ 14 15 16,dA prog eS 4)):=yY (sJ (by kernel_rfl)) (sJ (by kernel_rfl))
 refine cj ah ag aw hL (HG n lk es ck (H seen) seen (λl=>bh (E l)) (λl=>(E l).1.2.1) (λl=>(E l).1.2.2) (λl=>(E l).2.1) (λl=>(E l).2.2) _) ⟨rfl,⟨rfl,h.lost seen,rfl⟩,λhno=> ?_,λk v s hnx=> ?_⟩
 ·exact ⟨rfl,rfl,rfl,by rw [←hs.done h hno];rfl,seen,rfl⟩
 ·obtain ⟨rfl,rfl,hmS,hfind,hi2⟩:=Fm h hs hnx
  have hlast:∀l:List Nat,(l++ [s]).getLast?=some s:=λl=>by simp
  have hE:E (seen++ [s])=cO S st s:=by simp only [E,hlast,getD_some]
  have hle:=hi2.le
  have hw:=h.ok.wt _ hmS
  have hb:0≤H seen∧H seen≤1600:=Cz h hs (λ_=>true)
  have hst:H (seen++ [s])=H seen+bif (λ_=>true) (cO S st s) then (cO S st s).1.2.2 else 0:=by
   simp only [H,map_append,map_cons,map_nil];exact ru _ _
  simp only [hE]
  have hmu:st.length-(seen++ [s]).length<st.length-seen.length:=by
   simp only [length_append,length_cons,length_nil] at hle ⊢
   omega
  refine ⟨.ent _ rfl rfl ?_,?_⟩
  ·show jA _ (.ptr 2 0)=_
   simp only [jA,getElem?_cons_succ,getElem?_cons_zero,hlast,beq_refl,cond_true,hfind]
   rfl
  ·refine ⟨rfl,rfl,seen++ [s],hi2,hmu,.inr ⟨nN h (seen++ [s]) _,?_⟩⟩
   show _=iT _ (H (seen++ [s]))
   rw [hst]
   rw [kG (by omega) (by omega)];rfl
theorem CA (h:PoOk lk es ck S st)(g:Nat)(p:Mb→Bool)(hl:∀K,(∀seen,K .normal (ax 28 l5 (iT g (bz p S))) (jH n lk es ck seen) [])→VWx prog ae none 0 (av prog eS 0) (ax 28 l5 (iT g 0)) (jH n lk es ck []) [] K):
  VCx prog ae 0 eS [.ptr 0 0,.fn (.func g) [] []] (pT n lk es ck) (sL n lk es ck (.val (.int .i64 (bz p S)))):=by
 refine VCx.keepQ 2 0 (le_refl _) (le_refl _) (an ah ag aw (cn λq hq=>by obtain rfl:=mem_singleton.1 hq;exact dy λK hK=>hl K hK) (JZ n lk es ck g (bz p S) _) ?_)
 exact ⟨rfl,⟨rfl,rfl,rfl,trivial,rfl,rfl,rfl⟩,λseen=>⟨rfl,dW h _ _⟩⟩
theorem Im (h:PoOk lk es ck S st)(hn:1≤n∧n≤100):VCx prog ae 0 xi [.ptr 0 0] (pT n lk es ck) (sL n lk es ck (.val (.bool (jX n S)))):=by
 have hC:aT prog ae (aE [(eS,Fb n lk es ck (bz dz S) (bz (λ_=>true) S))]):=aJ λq hq=>by
  obtain rfl:=mem_singleton.1 hq
  intro ro ys T K hw
  have h':Fb n lk es ck (bz dz S) (bz (λ_=>true) S) ro ys T K:=hw
  clear hw
  unfold Fb at h'
  split at h'
  ·obtain ⟨⟨rfl,hg,rfl⟩,hk⟩:=h'
   rcases hg with rfl | rfl
   ·refine (CA h jG dz λK hK=>EC h K hK).mono ?_
    rintro x T' ⟨rfl,rfl⟩
    exact hk
   ·refine (CA h rx (λ_=>true) λK hK=>ED h K hK).mono ?_
    rintro x T' ⟨rfl,rfl⟩
    exact hk
  ·exact h'.elim
 have b1:=nH (p:=dz) h.ok.wt
 have b2:=nH (p:=λ_=>true) h.ok.wt
 have hf:=h.ok.few
 refine VCx.keepQ 2 0 (le_refl _) (le_refl _) (an ah ag hC ak (JY n lk es ck (bz dz S) (bz (λ_=>true) S) _) ?_)
 refine ⟨⟨rfl,.inl rfl,rfl⟩,⟨rfl,trivial⟩,⟨rfl,.inr rfl,rfl⟩,⟨rfl,trivial⟩,?_⟩
 have e1:(bif beq 51 jG then bz dz S else bz (λ_=>true) S)=bz dz S:=rfl
 have e2:(bif beq 78 jG then bz dz S else bz (λ_=>true) S)=bz (λ_=>true) S:=rfl
 rw [e1,e2]
 refine az (decide_eq_false (by omega)) (az (decide_eq_false (by omega)) (az (decide_eq_false (by omega)) (az (decide_eq_false (by omega)) (az (decide_eq_false (by omega)) (az (decide_eq_false (by omega)) (aM (λh0=>⟨?_,dW h _ _⟩) (λh0=>⟨?_,dW h _ _⟩)))))))
 ·have h0':0<bz dz S:=by simpa using h0
  have hm:0≤n*bz (λ_=>true) S∧n*bz (λ_=>true) S≤100*1600:=⟨Int.mul_nonneg (by omega) b2.1,Int.mul_le_mul hn.2 (by omega) b2.1 (by omega)⟩
  rw [kG (by omega) (by omega),kG (by omega) (by omega)]
  simp only [TV.ren,jX,decide_eq_true h0',Bool.true_and,ge_iff_le]
 ·have h0':¬0<bz dz S:=by simpa using h0
  simp only [TV.ren,jX,decide_eq_false h0',Bool.false_and]
end
end
section
open Go.RowKit Go.Maps Go.Sort
theorem EE {ro:Nat}{T T1:VT}{s x:Operand}{l:List (Nat × TV)}{es es2:List (List TV)}{k n:Nat}{bn:Bool}(hs:ct T 3 (au ae l s)=some (es,k,n,bn,T1))(hx:gv 3 (au ae l x)=some es2)(hb:es.length+es2.length≤3000):
    aN prog ae ro T (.call ⟨.builtin .append,#[s,x],#[22,22]⟩) l (.vec 3 (es++es2) (.tail k (n+es2.length))) {T1 with tails:=T1.tails.set k (n+es2.length,3,bn)}:=by
  obtain ⟨inf,i1,i2,i3,i4⟩:=xB
  have h:=iw (inf:=inf) (P:=prog) (G:=ae) (ro:=ro) (T:=T) (T1:=T1) (t:=22) (tx:=22) (s:=s) (x:=x) (l:=l) (es:=es) (es2:=es2) (k:=k) (n:=n) (bn:=bn) Tryz.underlying22 i1 i4 (by rw [i2];rfl) (by rw [i2];decide) (by kernel_rfl) (by rw [i2];exact hs) (by rw [i2];exact hx)
    (by have h1:=i3
        have h2:=Nat.mul_le_mul hb h1
        omega)
  rw [i2] at h
  exact h
section
variable {n:Int}{lk:Value→Option TV}{es:Es}{ck:Nat}{S:List Mb}{st:List Nat}
def jK (S:List Mb):List (List TV):=(cd bh S).map λz=> [.val (aB z)]
theorem In (h:PoOk lk es ck S st):∀ro ys T K,HE ⟨[pO n,.map kI lk es ck,.cells [.map 1]],[]⟩ (jK S) ro ys T K→VCx prog ae ro uS ys T K:=by
 rintro ro ys T K ⟨⟨rfl,rfl,rfl⟩,hk⟩
 refine (GB (k:=2) (m:=1) (T:=⟨[pO n,.map kI lk es ck,.cells [.map 1]],[]⟩) rfl rfl h.m.keys (λz hz=> ?_) (λe he=> ?_) (by rw [h.m.stamps];exact h.m.borns) (by simp;have:=h.ok.few;omega)).mono ?_
 ·obtain ⟨s,hs,rfl⟩:=mem_map.1 hz
  have:=h.m.ids s hs
  omega
 ·have hm:e.2.2∈es.map (·.2.2):=mem_map_of_mem he
  rw [h.m.stamps] at hm
  exact h.m.born _ hm
 ·rintro x T' ⟨rfl,rfl⟩
  exact hk
def od (S:List Mb)(l:List Int):List (List TV):=(jt bh lb S l).map λm=>aA m.1
theorem zg (f g:Nat→Option Nat)(S:List Mb)(l:List Int):bT f g (od S l)=od S l:=by
 unfold od
 induction jt bh lb S l with
 |nil=>rfl
 |cons a l ih=>simp only [map_cons,bT,ih];rfl
theorem zh (f g:Nat→Option Nat)(S:List Mb):bT f g (jK S)=jK S:=by
 unfold jK
 induction cd bh S with
 |nil=>rfl
 |cons a l ih=>simp only [map_cons,bT,ih];rfl
theorem xD (h:PoOk lk es ck S st)(k:Nat)(l:List VO):VT.keep ⟨pO n:: .map kI lk es ck:: .cells [.map 1]::l,[(k,3,true)]⟩ 3 1=xm n lk es ck k:=by
 have e:=h.ren (ai 3) (ai 1)
 simp only [VT.keep,take_succ_cons,take_zero,map_cons,map_nil,e,xm]
 rfl
theorem GJ (h:PoOk lk es ck S st):dS prog ae (KJ n lk es ck (jK S) (od S (cd bh S)) (av prog qK 0)):=cn λp hp=>by
 obtain rfl:=mem_singleton.1 hp
 refine dy λK hK=> ?_
 have hlen:(jK S).length=(cd bh S).length:=length_map _
 have hfew:=h.ok.few
 have hil:=xc (ky:=bh) S
 let A:Nat→List (List TV):=λj=>od S ((cd bh S).take j)
 let sl:Nat→List TV:=λj=>xl (jK S) (A j) j
 let TT:Nat→VT:=λj=>xm n lk es ck (A j).length
 refine fc (f:=qK) (id:=0) (by kernel_rfl) 39 Cf (λj=>(cd bh S).length-j) sl TT (λj=>j≤(cd bh S).length) 3 1 (λ_ _=>⟨le_refl _,le_refl _⟩)
  (λe vs T=>e=.normal∧vs=sl (cd bh S).length∧T=TT (cd bh S).length) (λj hj=> ?_) 0 (zero_le _) K (λe vs T ⟨h1,h2,h3⟩=> ?_)
 ·by_cases hlt:j<(cd bh S).length
  ·have hz:(cd bh S)[j]?=some (cd bh S)[j]:=getElem?_eq_getElem hlt
   generalize (cd bh S)[j]=z at hz
   obtain ⟨s,hf,hs,hsz⟩:=Gy (ky:=bh) (S:=S) (mem_of_getElem? hz)
   have hw:=fL j (by omega)
   have hl:lk (aB z)=some (l4 s):=by rw [h.m.at];unfold gi at hf;rw [hf];rfl
   have he:(jK S)[j]?=some [.val (aB z)]:=by unfold jK;rw [getElem?_map,hz];rfl
   have hstep:A (j+1)=A j++bif lb s then [aA s.1] else []:=by
    simp only [A,od,AU hz hf,map_append]
    cases lb s<;>rfl
   have htl:(A j).length≤100:=by
    have:=xe (ky:=bh) (p:=lb) (S:=S) (l:=(cd bh S).take j)
    simp only [A,od,length_map,List.length_take] at this ⊢
    omega
   refine cj ah ag aw ak (Cg n lk es ck (jK S) (A j) z s.1.1 s.1.2.1 s.1.2.2 s.2.1 s.2.2 j _) ?_
   have off:lb s=false→∀l,qb 39 0 (λj=>(cd bh S).length-j) sl TT (λj=>j≤(cd bh S).length) 3 1 j (λe vs T=>e=.normal∧vs=sl (cd bh S).length∧T=TT (cd bh S).length) .normal [.ptr 0 0,.fn (.func xk) [] [],.vec 3 (A j) (.tail 0 (A j).length),.vec 1 (jK S) .none,.val (.int .i64 (jK S).length),.val (.int .i64 (wrap i64 ((j:Int)+1)))] ⟨pO n:: .map kI lk es ck:: .cells [.map 1]::l,[((A j).length,3,true)]⟩ [] 39:=λhs l=>by
    rw [hs,cond_false,append_nil] at hstep
    refine ⟨rfl,rfl,j+1,hlt,by simp only;omega,.inr ⟨?_,?_⟩⟩
    ·simp only [TT,hstep];exact xD h _ _
    ·simp only [sl,xl,hw,hstep]
     simp only [A,ay,TV.ren,zg,zh,Tok.ren]
     rfl
   refine aL (decide_eq_true (by omega)) ⟨ib rfl rfl (Int.natCast_nonneg _) (by simp only [Int.toNat_natCast];exact he),ed ((mW (lk:=lk) (es:=es) (ck:=ck) rfl false).trans (by rw [hl];rfl)),aM (λhu=>aM (λhd=>aM (λhc=> ?_) (λhc=> ?_)) (λhd=> ?_)) (λhu=> ?_)⟩
   ·have hel:lb s=true:=by
     simp at hd hc
     simp [lb,dz,hu,hd,hc]
    rw [hel,cond_true] at hstep
    refine ⟨EE (T1:=⟨[pO n,.map kI lk es ck,.cells [.map 1],.cells (aD s),.cells (aD s),.cells (aD s)],[((A j).length,3,true)]⟩) (es2:= [aA s.1]) (by simp [au,dL,ct,kI,pO,aD]) rfl (by simp only [length_cons,length_nil];omega),rfl,rfl,j+1,hlt,by simp only;omega,.inr ⟨?_,?_⟩⟩
    ·have e3:(A j).length+1=(A (j+1)).length:=by rw [hstep];simp
     simp only [TT,←e3];exact xD h _ _
    ·have e3:(A j).length+1=(A (j+1)).length:=by rw [hstep];simp
     have e4:A j++ [eV s.1.1 s.1.2.1 s.1.2.2]=A (j+1):=hstep.symm
     rw [e4,e3]
     simp only [sl,xl,hw]
     simp only [A,ay,TV.ren,zg,zh,Tok.ren]
     rfl
   ·exact off (by simp at hc;simp [lb];omega) _
   ·exact off (by simp at hd;simp [lb,dz,hd]) _
   ·exact off (by simp [lb,dz,hu]) _
  ·obtain rfl:j=(cd bh S).length:=by omega
   refine cj ah ag aw ak (Cg n lk es ck (jK S) (A (cd bh S).length) 0 0 0 0 false false (cd bh S).length _) ?_
   exact az (decide_eq_false (by omega)) ⟨rfl,rfl,rfl,rfl,rfl⟩
 ·subst h1 h2 h3
  have ht:(cd bh S).take (cd bh S).length=cd bh S:=take_length
  have e1:sl (cd bh S).length=xl (jK S) (od S (cd bh S)) (jK S).length:=by simp only [sl,A,ht,hlen]
  have e2:TT (cd bh S).length=xm n lk es ck (od S (cd bh S)).length:=by simp only [TT,A,ht]
  rw [e1,e2]
  exact hK
theorem Io (S:List Mb):od S (cd bh S)=(cF S).map aA:=by unfold od cF;rw [map_map];rfl
theorem GK (h:PoOk lk es ck S st):VCx prog ae 0 qK [.ptr 0 0,.fn (.func xk) [] []] (pT n lk es ck) (sL n lk es ck (.vec 3 ((cF S).map aA) .none)):=by
 have hC:aT prog ae (aE [(uS,HE ⟨[pO n,.map kI lk es ck,.cells [.map 1]],[]⟩ (jK S))]):=aJ λp hp=>by
  obtain rfl:=mem_singleton.1 hp
  exact In h
 refine VCx.keepQ 2 0 (le_refl _) (le_refl _) (an ah ag hC (GJ h) (J0 n lk es ck (jK S) (od S (cd bh S)) _) ?_)
 refine ⟨⟨rfl,rfl,rfl⟩,rfl,⟨rfl,rfl,rfl,⟨rfl,trivial⟩,rfl,rfl,rfl⟩,?_,dW h _ _⟩
 simp only [TV.ren,Tok.ren,Io,jF];rfl
theorem Ip (h:PoOk lk es ck S st):VCx prog ae 0 xj [.ptr 0 0] (pT n lk es ck) (sL n lk es ck (.vec 3 ((cF S).map aA) .none)):=by
 have hC:aT prog ae (aE [(qK,KK n lk es ck ((cF S).map aA))]):=aJ λp hp=>by
  obtain rfl:=mem_singleton.1 hp
  rintro ro ys T K ⟨⟨rfl,rfl,rfl⟩,hk⟩
  refine (GK h).mono ?_
  rintro x T' ⟨rfl,rfl⟩
  exact hk
 refine VCx.keepQ 2 0 (le_refl _) (le_refl _) (an ah ag hC ak (J1 n lk es ck ((cF S).map aA) _) ?_)
 exact ⟨⟨rfl,rfl,rfl⟩,by simp only [TV.ren,jF,Tok.ren],dW h _ _⟩
end
end
end Go.Proofs.YtgboehkdijjnkaaGreatDoor