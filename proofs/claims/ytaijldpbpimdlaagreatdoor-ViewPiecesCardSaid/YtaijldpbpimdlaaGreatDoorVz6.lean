/-Part 6 of the proof of viewPiecesCard_holds:MsRveYy,MsRvfYy,MsRvgYy ... No condition. -/
import Derived.Test.YtaijldpbpimdlaaGreatDoorVz1
import Derived.Test.YtaijldpbpimdlaaGreatDoorVz2
import Derived.Test.YtaijldpbpimdlaaGreatDoorVz3
import Derived.Test.YtaijldpbpimdlaaGreatDoorVz4
import Derived.Test.YtaijldpbpimdlaaGreatDoorVz5
set_option maxRecDepth 100000
namespace Go.Proofs.YtaijldpbpimdlaaGreatDoor
open Go.RowKit
open Go.BinOp (eql neq)
open _root_.BitVec (ofInt toNat)
open _root_.Bool (and_eq_true)
open Go.Builtin (zeroCells)
open Go.Calls (mono)
open _root_.Int (ofNat ofNat_inj)
open Go.IntKind (i64 u32 u64 u8 wrap)
open _root_.List (append_nil flatten getElem?_map getElem?_set length length_append length_cons length_drop length_map length_nil map_cons map_nil mem_append mem_cons mem_cons_of_mem mem_cons_self mem_singleton nil_append nodup_nil not_mem_nil toArray)
open _root_.Nat (beq beq_refl ble ble_eq_true_of_le eq_of_beq_eq_true le_of_ble_eq_true le_refl mul_one not_lt_zero zero_add zero_le zero_mul)
open _root_.Option (getD_some map_eq_some_iff)
open Go.Proofs.Tryz (prog underlying22)
open Go.Value (oneCell')
def E8:be:=λro ys T K=>match ys with
 |[.row 1 k off n]=>match T.objs[k]? with
  |some (.row cs)=>(ble ro k=true∧RwOk cs off n)∧K (.ptr T.objs.length 0) {T with objs:=T.objs++ [aG (an cs off n) 0 0]}
  |_=>aQ 80 default ys
 |_=>aQ 82 default ys
def Na:be:=λro ys T K=>match ys with
 |[.row 1 k off n]=>match T.objs[k]? with
  |some (.row cs)=>(ble ro k=true∧RwOk cs off n)∧K (.vec 1 (an cs off n) .none) T
  |_=>aQ 80 default ys
 |_=>aQ 82 default ys
abbrev pu (v:Bs)(v_19:Bs)(v_24:Bs):VO:=(V0 (aX v) (mS v_19) (iF v_19) (mT v_19) (mU v_19) (mV v_19) (aX v_24))
abbrev pv (v_19:Bs):VO:=(Ac (mS v_19) (iF v_19) (mT v_19) (mU v_19) (mV v_19))
abbrev j3 (v_19:Bs):VO:=(GH (jL v_19) (je v_19))
abbrev Bk (v:Bs)(v_19:Bs)(v_24:Bs):TV:=(V1 (aX v) (mS v_19) (iF v_19) (mT v_19) (mU v_19) (mV v_19) (aX v_24))
theorem RE (cs:List TV)(off n:Nat)(Q:TV→VT→Prop):ax prog ae (aT [(ke,E8),(mn,ly .i64 2),(jK,Ak),(GT,xr),(jc,lv),(ot,Hc),(ts,M6)]) (bB [(999999,.dead,none)]) 300 aU 0 E0 [.row 1 0 off n] (cw (.row cs)) Q=
 (((@Eq (Bool) true true)∧
 RwOk (cs) (off) (n))∧
 (((@Eq (Bool) true true)∧
 IsB (an cs off n))∧
 (∀z:Int,(∀bz:Bs,(∀az:Int,(∀ez:Int,(((@Eq (Int) (z) (aN (2:Nat) (an cs off n) (0:Int)))∧
 ((@Eq (Bs) (bz) (ar (↑(2:Nat):Int) (an cs off n) (0:Int)))∧
 (@Eq (Int) (ez) (au (↑(2:Nat):Int) (an cs off n) (0:Int)))))→(((@Eq (Bool) true true)∧
 IsB (bz))∧
 (∀v:Bs,(∀bz_10:Bs,(∀az_11:Int,(∀ez_12:Int,(((@Eq (Bs) (v) (b9 z bz ez))∧
 ((@Eq (Bs) (bz_10) (ar z bz ez))∧
 (@Eq (Int) (ez_12) (au z bz ez))))→(((@Eq (Bool) true true)∧
 IsB (bz_10))∧
 (∀z_14:Int,(∀bz_15:Bs,(∀az_16:Int,(∀ez_17:Int,(((@Eq (Int) (z_14) (aN (2:Nat) bz_10 ez_12))∧
 ((@Eq (Bs) (bz_15) (ar (↑(2:Nat):Int) bz_10 ez_12))∧
 (@Eq (Int) (ez_17) (au (↑(2:Nat):Int) bz_10 ez_12))))→(((@Eq (Bool) true true)∧
 IsB (bz_15))∧
 (∀v_19:Bs,(∀bz_20:Bs,(∀az_21:Int,(∀ez_22:Int,(((@Eq (Bs) (v_19) (b9 z_14 bz_15 ez_17))∧
 ((@Eq (Bs) (bz_20) (ar z_14 bz_15 ez_17))∧
 (@Eq (Int) (ez_22) (au z_14 bz_15 ez_17))))→(((@Eq (Bool) true true)∧
 IsB (bz_20))∧
 (∀v_24:Bs,(∀bz_25:Bs,(∀az_26:Int,(∀ez_27:Int,(((@Eq (Bs) (v_24) (b9 (bC bz_20 ez_22) bz_20 ez_22))∧
 ((@Eq (Bs) (bz_25) (ar (bC bz_20 ez_22) bz_20 ez_22))∧
 (@Eq (Int) (ez_27) (au (bC bz_20 ez_22) bz_20 ez_22))))→(((@Eq (Bool) true true)∧
 IsB (bz_25))∧
 (bif av neq (k6 ez_27 (0:Int))
 then Q (.tup [Lb,MQ]) ⟨[(bD cs),ol,xj,(.cells [aF,(aH bz_25),(ah az_26),(ah ez_27)]),gG,ol,xj],[]⟩
 else (IsB (v)∧
 (bif gk v
 then (IsB (v_24)∧
 (bif gk v_24
 then (bif av eql (k6 (↑(length v_19):Int) (0:Int))
 then (bif av eql (k6 (↑(length (aX v_24)):Int) (0:Int))
 then Q (vW (aX v) (aX v_24)) ⟨[(bD cs),(iC (aX v) (aX v_24)),cA,(.cells [aF,(aH bz_25),(ah az_26),(ah ez_27)]),gG,(iC (aX v) (aX v_24)),(gV v),(iB v_24)],[]⟩
 else (IsB (v_19)∧
 (bif g8 v_19
 then (bif decide ((↑(length (aX v_24)):Int)>(0:Int))
 then (bif decide ((↑(length (aX v_24)):Int)>(0:Int))
 then Q (Bk v v_19 v_24) ⟨[(bD cs),(pu v v_19 v_24),cA,(.cells [aF,(aH bz_25),(ah az_26),(ah ez_27)]),gG,(pu v v_19 v_24),(gV v),(iB v_24),(pv v_19),dk],[]⟩
 else Q (vW (aX v) (aX v_24)) ⟨[(bD cs),(iC (aX v) (aX v_24)),cA,(.cells [aF,(aH bz_25),(ah az_26),(ah ez_27)]),gG,(iC (aX v) (aX v_24)),(gV v),(iB v_24),(pv v_19),dk],[]⟩)
 else (bif decide ((↑(length (aX v_24)):Int)>(0:Int))
 then Q (Bk v v_19 v_24) ⟨[(bD cs),(pu v v_19 v_24),cA,(.cells [aF,(aH bz_25),(ah az_26),(ah ez_27)]),gG,(pu v v_19 v_24),(gV v),(iB v_24),(pv v_19),dk],[]⟩
 else Q (vW (aX v) (aX v_24)) ⟨[(bD cs),(iC (aX v) (aX v_24)),cA,(.cells [aF,(aH bz_25),(ah az_26),(ah ez_27)]),gG,(iC (aX v) (aX v_24)),(gV v),(iB v_24),(pv v_19),dk],[]⟩))
 else (bif decide ((↑(length (aX v_24)):Int)>(0:Int))
 then Q (GG (jL v_19) (je v_19)) ⟨[(bD cs),ol,(j3 v_19),(.cells [aF,(aH bz_25),(ah az_26),(ah ez_27)]),gG,(iC (aX v) (aX v_24)),(gV v),(iB v_24),s7,(j3 v_19)],[]⟩
 else (bif av neq (k6 (jL v_19) (3:Int))
 then Q (GG (jL v_19) (je v_19)) ⟨[(bD cs),ol,(j3 v_19),(.cells [aF,(aH bz_25),(ah az_26),(ah ez_27)]),gG,(iC (aX v) (aX v_24)),(gV v),(iB v_24),s7,(j3 v_19)],[]⟩
 else (bif decide ((↑(length (aX v_24)):Int)>(0:Int))
 then Q (Qz (aX v) (aX v_24)) ⟨[(bD cs),(GF (aX v) (aX v_24)),cA,(.cells [aF,(aH bz_25),(ah az_26),(ah ez_27)]),gG,(GF (aX v) (aX v_24)),(gV v),(iB v_24),s7,(j3 v_19)],[]⟩
 else Q (vW (aX v) (aX v_24)) ⟨[(bD cs),(iC (aX v) (aX v_24)),cA,(.cells [aF,(aH bz_25),(ah az_26),(ah ez_27)]),gG,(iC (aX v) (aX v_24)),(gV v),(iB v_24),s7,(j3 v_19)],[]⟩))))))
 else (IsB (v_19)∧
 (bif g8 v_19
 then (bif decide ((↑(length (aX v_24)):Int)>(0:Int))
 then (bif decide ((↑(length (aX v_24)):Int)>(0:Int))
 then Q (Bk v v_19 v_24) ⟨[(bD cs),(pu v v_19 v_24),cA,(.cells [aF,(aH bz_25),(ah az_26),(ah ez_27)]),gG,(pu v v_19 v_24),(gV v),(iB v_24),(pv v_19),dk],[]⟩
 else Q (vW (aX v) (aX v_24)) ⟨[(bD cs),(iC (aX v) (aX v_24)),cA,(.cells [aF,(aH bz_25),(ah az_26),(ah ez_27)]),gG,(iC (aX v) (aX v_24)),(gV v),(iB v_24),(pv v_19),dk],[]⟩)
 else (bif decide ((↑(length (aX v_24)):Int)>(0:Int))
 then Q (Bk v v_19 v_24) ⟨[(bD cs),(pu v v_19 v_24),cA,(.cells [aF,(aH bz_25),(ah az_26),(ah ez_27)]),gG,(pu v v_19 v_24),(gV v),(iB v_24),(pv v_19),dk],[]⟩
 else Q (vW (aX v) (aX v_24)) ⟨[(bD cs),(iC (aX v) (aX v_24)),cA,(.cells [aF,(aH bz_25),(ah az_26),(ah ez_27)]),gG,(iC (aX v) (aX v_24)),(gV v),(iB v_24),(pv v_19),dk],[]⟩))
 else (bif decide ((↑(length (aX v_24)):Int)>(0:Int))
 then Q (GG (jL v_19) (je v_19)) ⟨[(bD cs),ol,(j3 v_19),(.cells [aF,(aH bz_25),(ah az_26),(ah ez_27)]),gG,(iC (aX v) (aX v_24)),(gV v),(iB v_24),s7,(j3 v_19)],[]⟩
 else (bif av neq (k6 (jL v_19) (3:Int))
 then Q (GG (jL v_19) (je v_19)) ⟨[(bD cs),ol,(j3 v_19),(.cells [aF,(aH bz_25),(ah az_26),(ah ez_27)]),gG,(iC (aX v) (aX v_24)),(gV v),(iB v_24),s7,(j3 v_19)],[]⟩
 else (bif decide ((↑(length (aX v_24)):Int)>(0:Int))
 then Q (Qz (aX v) (aX v_24)) ⟨[(bD cs),(GF (aX v) (aX v_24)),cA,(.cells [aF,(aH bz_25),(ah az_26),(ah ez_27)]),gG,(GF (aX v) (aX v_24)),(gV v),(iB v_24),s7,(j3 v_19)],[]⟩
 else Q (vW (aX v) (aX v_24)) ⟨[(bD cs),(iC (aX v) (aX v_24)),cA,(.cells [aF,(aH bz_25),(ah az_26),(ah ez_27)]),gG,(iC (aX v) (aX v_24)),(gV v),(iB v_24),s7,(j3 v_19)],[]⟩))))))
 else Q Qy ⟨[(bD cs),ol,GE,(.cells [aF,(aH bz_25),(ah az_26),(ah ez_27)]),gG,(.cells [(ef (aX v)),aB,aO,cF,aB,ak,aO]),(gV v),(iB v_24),ol,GE],[]⟩))
 else Q Qy ⟨[(bD cs),ol,GE,(.cells [aF,(aH bz_25),(ah az_26),(ah ez_27)]),gG,ol,(gV v),ol,GE],[]⟩))))))))))))))))))))))))))))))))))):=by kernel_rfl
abbrev Hn:TV:=(sY [[(.val (.int .u8 0))],[(.val (.int .u8 4))]])
theorem RF (cs:List TV)(off n:Nat)(pas:Int)(Q:TV→VT→Prop):ax prog ae (aT [(ke,E8),(iD,ly .i64 1),(mn,ly .i64 2),(Bc,ly .u32 4),(kf,m4),(mQ,MX)]) (bB [(999999,.dead,none)]) 300 aU 0 EI [.row 1 0 off n,.val (.int .i64 pas)] (cw (.row cs)) Q=
 (bif decide ((↑n:Int)<(10:Int))
 then Q Cs ⟨[(bD cs),cB,pL,cB,pL],[]⟩
 else (((@Eq (Bool) true true)∧
 RwOk (cs) (off) (n))∧
 (((@Eq (Bool) true true)∧
 IsB (an cs off n))∧
 (∀z:Int,(∀bz:Bs,(∀az:Int,(∀ez:Int,(((@Eq (Int) (z) (aN (1:Nat) (an cs off n) (0:Int)))∧
 ((@Eq (Bs) (bz) (ar (↑(1:Nat):Int) (an cs off n) (0:Int)))∧
 (@Eq (Int) (ez) (au (↑(1:Nat):Int) (an cs off n) (0:Int)))))→(bif av neq (k6 z (4:Int))
 then Q (.tup [yU,(.agg [ei,eR,Hn])]) ⟨[(bD cs),cB,(.cells [ei,eR,Hn]),(.cells [aF,(aH bz),(ah az),(ah ez)]),cB,(.cells [ei,eR,Hn])],[]⟩
 else (((@Eq (Bool) true true)∧
 IsB (bz))∧
 (∀z_10:Int,(∀bz_11:Bs,(∀az_12:Int,(∀ez_13:Int,(((@Eq (Int) (z_10) (aN (2:Nat) bz ez))∧
 ((@Eq (Bs) (bz_11) (ar (↑(2:Nat):Int) bz ez))∧
 (@Eq (Int) (ez_13) (au (↑(2:Nat):Int) bz ez))))→(((@Eq (Bool) true true)∧
 IsB (bz_11))∧
 (∀z_15:Int,(∀bz_16:Bs,(∀az_17:Int,(∀ez_18:Int,(((@Eq (Int) (z_15) (aN (2:Nat) bz_11 ez_13))∧
 ((@Eq (Bs) (bz_16) (ar (↑(2:Nat):Int) bz_11 ez_13))∧
 (@Eq (Int) (ez_18) (au (↑(2:Nat):Int) bz_11 ez_13))))→(((@Eq (Bool) true true)∧
 IsB (bz_16))∧
 (∀z_20:Int,(∀bz_21:Bs,(∀az_22:Int,(∀ez_23:Int,(((@Eq (Int) (z_20) (aN (4:Nat) bz_16 ez_18))∧
 ((@Eq (Bs) (bz_21) (ar (↑(4:Nat):Int) bz_16 ez_18))∧
 (@Eq (Int) (ez_23) (au (↑(4:Nat):Int) bz_16 ez_18))))→(((@Eq (Bool) true true)∧
 IsB (bz_21))∧
 (∀z_25:Int,(∀bz_26:Bs,(∀az_27:Int,(∀ez_28:Int,(((@Eq (Int) (z_25) (aN (1:Nat) bz_21 ez_23))∧
 ((@Eq (Bs) (bz_26) (ar (↑(1:Nat):Int) bz_21 ez_23))∧
 (@Eq (Int) (ez_28) (au (↑(1:Nat):Int) bz_21 ez_23))))→(bif av eql (k6 z_10 (0:Int))
 then Q Qx ⟨[(bD cs),cB,GD,(.cells [aF,(aH bz_26),(ah az_27),(ah ez_28)]),(iA z_10 z_15 z_20),cB,GD],[]⟩
 else (bif decide (pas≥(1:Int))
 then (bif av neq (k6 z_10 pas)
 then Q Qx ⟨[(bD cs),cB,GD,(.cells [aF,(aH bz_26),(ah az_27),(ah ez_28)]),(iA z_10 z_15 z_20),cB,GD],[]⟩
 else (bif av eql (k6 z_15 (0:Int))
 then (bif av eql (aq (Value.int u32 z_20) (Value.int u32 (0:Int)))
 then Q GC ⟨[(bD cs),cB,s6,(.cells [aF,(aH bz_26),(ah az_27),(ah ez_28)]),(iA z_10 z_15 z_20),cB,s6],[]⟩
 else (((@Eq (Bool) true true)∧
 IsB (bz_26))∧
 (bif av neq (k6 z_25 (bC bz_26 ez_28))
 then Q Cs ⟨[(bD cs),cB,pL,(.cells [aF,(aH bz_26),(ah az_27),(ah ez_28)]),(iA z_10 z_15 z_20),cB,pL],[]⟩
 else (((@Eq (Bool) true true)∧
 IsB (bz_26))∧
 (∀bz_30:Bs,(∀az_31:Int,(∀ez_32:Int,(bif gI bz_26 ez_28
 then Q (GB z_10 z_15 z_20 (gl bz_26 ez_28)) ⟨[(bD cs),(s5 z_10 z_15 z_20 (gl bz_26 ez_28)),cA,(.cells [aF,(aH bz_30),(ah az_31),(ah ez_32)]),(s5 z_10 z_15 z_20 (gl bz_26 ez_28))],[]⟩
 else Q (GA (jH bz_26 ez_28)) ⟨[(bD cs),cB,(s4 (jH bz_26 ez_28)),(.cells [aF,(aH bz_30),(ah az_31),(ah ez_32)]),(iA z_10 z_15 z_20),cB,(s4 (jH bz_26 ez_28))],[]⟩))))))))
 else (bif decide (z_15≥(3:Int))
 then (bif !decide (z_15≤(65535:Int))
 then Q Gz ⟨[(bD cs),cB,sZ,(.cells [aF,(aH bz_26),(ah az_27),(ah ez_28)]),(iA z_10 z_15 z_20),cB,sZ],[]⟩
 else (bif av eql (aq (Value.int u32 z_20) (Value.int u32 (0:Int)))
 then Q GC ⟨[(bD cs),cB,s6,(.cells [aF,(aH bz_26),(ah az_27),(ah ez_28)]),(iA z_10 z_15 z_20),cB,s6],[]⟩
 else (((@Eq (Bool) true true)∧
 IsB (bz_26))∧
 (bif av neq (k6 z_25 (bC bz_26 ez_28))
 then Q Cs ⟨[(bD cs),cB,pL,(.cells [aF,(aH bz_26),(ah az_27),(ah ez_28)]),(iA z_10 z_15 z_20),cB,pL],[]⟩
 else (((@Eq (Bool) true true)∧
 IsB (bz_26))∧
 (∀bz_30:Bs,(∀az_31:Int,(∀ez_32:Int,(bif gI bz_26 ez_28
 then Q (GB z_10 z_15 z_20 (gl bz_26 ez_28)) ⟨[(bD cs),(s5 z_10 z_15 z_20 (gl bz_26 ez_28)),cA,(.cells [aF,(aH bz_30),(ah az_31),(ah ez_32)]),(s5 z_10 z_15 z_20 (gl bz_26 ez_28))],[]⟩
 else Q (GA (jH bz_26 ez_28)) ⟨[(bD cs),cB,(s4 (jH bz_26 ez_28)),(.cells [aF,(aH bz_30),(ah az_31),(ah ez_32)]),(iA z_10 z_15 z_20),cB,(s4 (jH bz_26 ez_28))],[]⟩)))))))))
 else Q Gz ⟨[(bD cs),cB,sZ,(.cells [aF,(aH bz_26),(ah az_27),(ah ez_28)]),(iA z_10 z_15 z_20),cB,sZ],[]⟩)))
 else (bif av eql (k6 z_15 (0:Int))
 then (bif av eql (aq (Value.int u32 z_20) (Value.int u32 (0:Int)))
 then Q GC ⟨[(bD cs),cB,s6,(.cells [aF,(aH bz_26),(ah az_27),(ah ez_28)]),(iA z_10 z_15 z_20),cB,s6],[]⟩
 else (((@Eq (Bool) true true)∧
 IsB (bz_26))∧
 (bif av neq (k6 z_25 (bC bz_26 ez_28))
 then Q Cs ⟨[(bD cs),cB,pL,(.cells [aF,(aH bz_26),(ah az_27),(ah ez_28)]),(iA z_10 z_15 z_20),cB,pL],[]⟩
 else (((@Eq (Bool) true true)∧
 IsB (bz_26))∧
 (∀bz_30:Bs,(∀az_31:Int,(∀ez_32:Int,(bif gI bz_26 ez_28
 then Q (GB z_10 z_15 z_20 (gl bz_26 ez_28)) ⟨[(bD cs),(s5 z_10 z_15 z_20 (gl bz_26 ez_28)),cA,(.cells [aF,(aH bz_30),(ah az_31),(ah ez_32)]),(s5 z_10 z_15 z_20 (gl bz_26 ez_28))],[]⟩
 else Q (GA (jH bz_26 ez_28)) ⟨[(bD cs),cB,(s4 (jH bz_26 ez_28)),(.cells [aF,(aH bz_30),(ah az_31),(ah ez_32)]),(iA z_10 z_15 z_20),cB,(s4 (jH bz_26 ez_28))],[]⟩))))))))
 else (bif decide (z_15≥(3:Int))
 then (bif !decide (z_15≤(65535:Int))
 then Q Gz ⟨[(bD cs),cB,sZ,(.cells [aF,(aH bz_26),(ah az_27),(ah ez_28)]),(iA z_10 z_15 z_20),cB,sZ],[]⟩
 else (bif av eql (aq (Value.int u32 z_20) (Value.int u32 (0:Int)))
 then Q GC ⟨[(bD cs),cB,s6,(.cells [aF,(aH bz_26),(ah az_27),(ah ez_28)]),(iA z_10 z_15 z_20),cB,s6],[]⟩
 else (((@Eq (Bool) true true)∧
 IsB (bz_26))∧
 (bif av neq (k6 z_25 (bC bz_26 ez_28))
 then Q Cs ⟨[(bD cs),cB,pL,(.cells [aF,(aH bz_26),(ah az_27),(ah ez_28)]),(iA z_10 z_15 z_20),cB,pL],[]⟩
 else (((@Eq (Bool) true true)∧
 IsB (bz_26))∧
 (∀bz_30:Bs,(∀az_31:Int,(∀ez_32:Int,(bif gI bz_26 ez_28
 then Q (GB z_10 z_15 z_20 (gl bz_26 ez_28)) ⟨[(bD cs),(s5 z_10 z_15 z_20 (gl bz_26 ez_28)),cA,(.cells [aF,(aH bz_30),(ah az_31),(ah ez_32)]),(s5 z_10 z_15 z_20 (gl bz_26 ez_28))],[]⟩
 else Q (GA (jH bz_26 ez_28)) ⟨[(bD cs),cB,(s4 (jH bz_26 ez_28)),(.cells [aF,(aH bz_30),(ah az_31),(ah ez_32)]),(iA z_10 z_15 z_20),cB,(s4 (jH bz_26 ez_28))],[]⟩)))))))))
 else Q Gz ⟨[(bD cs),cB,sZ,(.cells [aF,(aH bz_26),(ah az_27),(ah ez_28)]),(iA z_10 z_15 z_20),cB,sZ],[]⟩))))))))))))))))))))))))))))))))))))):=by kernel_rfl
theorem Pm (cs:List TV)(off n:Nat)(Q:TV→VT→Prop):ax prog ae (aT [(m5,Na)]) aR 300 aU 0 ke [.row 1 0 off n] (cw (.row cs)) Q=
 (((@Eq (Bool) true true)∧
 RwOk (cs) (off) (n))∧
 Q lO ⟨[(bD cs),(.cells [aF,(aH (an cs off n)),aB,aB])],[]⟩):=by kernel_rfl
theorem RG (cs W:List TV)(off n:Nat)(Q:TV→VT→Prop):ax prog ae bo (bB [(7,.row 1 1 0 n,some λT=>T.newRow W)]) 300 aU 0 m5 [.row 1 0 off n] (cw (.row cs)) Q=
 (bp prog (λ_=>.none) 0 (oh cs) (.call ⟨(.builtin .append),#[(.tmp 5),(.tmp 6)],#[22,22]⟩) [(5,uF),(6,(.row 1 0 off n))] (og n) ⟨[(bD cs),(bD W)],[]⟩∧
 Q (og n) ⟨[(bD cs),(bD W)],[]⟩):=by kernel_rfl
theorem Pn (cs:List TV)(off:Nat)(Q:TV→VT→Prop):ax prog ae bo (bB [(7,.vec 1 [] .full,some λT=>T)]) 300 aU 0 m5 [.row 1 0 off 0] (cw (.row cs)) Q=
 (bp prog (λ_=>.none) 0 (oh cs) (.call ⟨(.builtin .append),#[(.tmp 5),(.tmp 6)],#[22,22]⟩) [(5,uF),(6,(.row 1 0 off 0))] uF (oh cs)∧
 Q uF (oh cs)):=by kernel_rfl
abbrev Ho:=63
def Me:be:=λro ys T K=>match ys with
 |[.row 1 k off n,.val (.int .i64 16)]=>match T.objs[k]? with
  |some (.row cs)=>(ble ro k=true∧RwOk cs off n∧ble 19 n=true∧off=0)∧K (.tup [.val (.int .i64 (iM (an cs off n))),.val (.bool true)]) T
  |_=>aQ 80 default ys
 |_=>aQ 86 default ys
def De:be:=λro ys T K=>match ys with
 |[.row 1 k off n]=>match T.objs[k]? with
  |some (.row cs)=>(ble ro k=true∧RwOk cs off n∧ble 19 n=true∧off=0)∧bif dm (an cs off n) then K (.tup [.val (.int .i64 (bM (an cs off n))),.val (.int .i64 (eL (an cs off n))),cH 0 0 []]) T else K (.tup [.val (.int .i64 0),.val (.int .i64 0),cH 1 (mG (an cs off n)) (ll (an cs off n))]) T
  |_=>aQ 80 default ys
 |_=>aQ 83 default ys
def Jy:be:=λro ys T K=>match ys with
 |[.row 1 k off n,.val (.int .i64 pas)]=>match T.objs[k]? with
  |some (.row cs)=>(ble ro k=true∧RwOk cs off n)∧bif iG (an cs off n) pas then K (.tup [.agg [.val (.int .i64 (L7 (an cs off n) pas)),.val (.int .i64 (L8 (an cs off n) pas)),.val (.int .u32 (L9 (an cs off n) pas)),.vec 2 (tz (an cs off n) pas) .none],cH 0 0 []]) T else K (.tup [.agg [.val (.int .i64 0),.val (.int .i64 0),.val (.int .u32 0),.vec 2 [] .none],cH 2 (tA (an cs off n) pas) (lT (an cs off n) pas)]) T
  |_=>aQ 80 default ys
 |_=>aQ 83 default ys
def Jz:be:=λro ys T K=>match ys with
 |[.row 1 k off n]=>match T.objs[k]? with
  |some (.row cs)=>(ble ro k=true∧RwOk cs off n)∧bif jg (an cs off n) then K (.tup [.agg [.vec 2 (Hd (an cs off n)) .none,.val (.int .i64 (He (an cs off n))),.vec 1 (Hf (an cs off n)) .none,.val (.int .u32 (Hg (an cs off n))),.val (.int .i64 (Hh (an cs off n))),.val (.bool (Hi (an cs off n))),.vec 2 (Hj (an cs off n)) .none],cH 0 0 []]) T
   else K (.tup [.agg [.vec 2 [] .none,.val (.int .i64 0),.vec 1 [] .none,.val (.int .u32 0),.val (.int .i64 0),.val (.bool false),.vec 2 [] .none],cH 3 (tB (an cs off n)) (lU (an cs off n))]) T
  |_=>aQ 80 default ys
 |_=>aQ 83 default ys
def JA:be:=λro ys T K=>match ys with
 |[.row 1 k off n]=>match T.objs[k]? with
  |some (.row cs)=>(ble ro k=true∧RwOk cs off n∧off=19∧ble 2 n=true)∧bif jU (an cs off n) then K (.tup [cH (Da (an cs off n)) (Db (an cs off n)) (Dc (an cs off n)),.val (.bool true)]) T else K (.tup [cH 0 0 [],.val (.bool false)]) T
  |_=>aQ 80 default ys
 |_=>aQ 83 default ys
def gM (c0 c1 c2 c3 c4 c5 c6 c7 c8 c9 c10 c11 c12 c13 c14 c15 c16 c17 c18:TV)(w:List TV):List TV:=c0::c1::c2::c3::c4::c5::c6::c7::c8::c9::c10::c11::c12::c13::c14::c15::c16::c17::c18::w
def xS (z0 z1 z2 z3 z4 z5 z6 z7 z8 z9 z10 z11 z12 z13 z14 z15 z16 z17 z18:Int)(w:List TV):List TV:=.val (.int .u8 z0):: .val (.int .u8 z1):: .val (.int .u8 z2):: .val (.int .u8 z3):: .val (.int .u8 z4):: .val (.int .u8 z5):: .val (.int .u8 z6):: .val (.int .u8 z7):: .val (.int .u8 z8):: .val (.int .u8 z9):: .val (.int .u8 z10):: .val (.int .u8 z11):: .val (.int .u8 z12):: .val (.int .u8 z13):: .val (.int .u8 z14):: .val (.int .u8 z15):: .val (.int .u8 z16):: .val (.int .u8 z17):: .val (.int .u8 z18)::w
abbrev xT (c0:TV)(c1:TV)(c2:TV)(c3:TV)(c4:TV)(c5:TV)(c6:TV)(c7:TV)(c8:TV)(c9:TV)(c10:TV)(c11:TV)(c12:TV)(c13:TV)(c14:TV)(c15:TV)(c16:TV)(c17:TV)(c18:TV)(z0:Int)(z1:Int)(w:List TV)(m:Nat):VT:=(VZ ([(c0),(c1),(c2),(c3),(c4),(c5),(c6),(c7),(c8),(c9),(c10),(c11),(c12),(c13),(c14),(c15),(c16),(c17),(c18),(.val (.int .u8 (z0))),(.val (.int .u8 (z1)))]++w) (wrap i64 z0) (wrap i64 z1) (an (gM c0 c1 c2 c3 c4 c5 c6 c7 c8 c9 c10 c11 c12 c13 c14 c15 c16 c17 c18 (TV.val (Value.int u8 z0)::TV.val (Value.int u8 z1)::w)) (21:Nat) m) (wrap i64 z0) (wrap i64 z1) (an (gM c0 c1 c2 c3 c4 c5 c6 c7 c8 c9 c10 c11 c12 c13 c14 c15 c16 c17 c18 (TV.val (Value.int u8 z0)::TV.val (Value.int u8 z1)::w)) (21:Nat) m))
abbrev Hp (z0:Int)(z1:Int)(c0:TV)(c1:TV)(c2:TV)(c3:TV)(c4:TV)(c5:TV)(c6:TV)(c7:TV)(c8:TV)(c9:TV)(c10:TV)(c11:TV)(c12:TV)(c13:TV)(c14:TV)(c15:TV)(c16:TV)(c17:TV)(c18:TV)(w:List TV)(m:Nat):VO:=(jG (wrap i64 z0) (wrap i64 z1) (an (gM c0 c1 c2 c3 c4 c5 c6 c7 c8 c9 c10 c11 c12 c13 c14 c15 c16 c17 c18 (TV.val (Value.int u8 z0)::TV.val (Value.int u8 z1)::w)) (21:Nat) m))
theorem RH (c0 c1 c2 c3 c4 c5 c6 c7 c8 c9 c10 c11 c12 c13 c14 c15 c16 c17 c18:TV)(z0 z1:Int)(w:List TV)(m:Nat)(Q:TV→VT→Prop):ax prog ae (aT [(m5,Na)]) (bB [(999998,.dead,none),(10,.ptr 0 19,none),(14,.ptr 0 20,none),(18,.row 1 0 21 m,none)]) 300 aU 0 CD [.row 1 0 19 (m+2)] (cw (.row (gM c0 c1 c2 c3 c4 c5 c6 c7 c8 c9 c10 c11 c12 c13 c14 c15 c16 c17 c18 (.val (.int .u8 z0):: .val (.int .u8 z1)::w)))) Q=
 (aS prog (λ_=>.none) (.indexAddr 22 (.tmp 9) (.const (.int .i64 0))) [(9,(.row 1 0 19 (m+(2:Nat))))] (.ptr 0 19)∧
 (aS prog (λ_=>.none) (.indexAddr 22 (.tmp 13) (.const (.int .i64 1))) [(13,(.row 1 0 19 (m+(2:Nat))))] (.ptr 0 20)∧
 (aS prog (λ_=>.none) (.slice 22 (.tmp 17) (.some (.const (.int .i64 2))) .none .none) [(17,(.row 1 0 19 (m+(2:Nat))))] (.row 1 0 21 m)∧
 (((@Eq (Bool) true true)∧
 RwOk ([(c0),(c1),(c2),(c3),(c4),(c5),(c6),(c7),(c8),(c9),(c10),(c11),(c12),(c13),(c14),(c15),(c16),(c17),(c18),(bh z0),(bh z1)]++w) 21 (m))∧
 (((@Eq (Option TV) (.some (bh z1)) (.some (bh z1)))∧
 ((@Eq (Option TV) (.some (bh z0)) (.some (bh z0)))∧
 True))∧
 (bif decide (wrap i64 z0≥(1:Int))
 then (bif decide (wrap i64 z0≤(255:Int))
 then (bif decide (wrap i64 z1≥(0:Int))
 then (bif decide (wrap i64 z1≤(255:Int))
 then (bif !decide ((↑(length (an (gM c0 c1 c2 c3 c4 c5 c6 c7 c8 c9 c10 c11 c12 c13 c14 c15 c16 c17 c18 (TV.val (Value.int u8 z0)::TV.val (Value.int u8 z1)::w)) (21:Nat) m)):Int)≤(4075:Int))
 then Q ri (xT c0 c1 c2 c3 c4 c5 c6 c7 c8 c9 c10 c11 c12 c13 c14 c15 c16 c17 c18 z0 z1 w m)
 else Q (.tup [(.agg [(ah (wrap i64 z0)),(ah (wrap i64 z1)),(aH (an (gM c0 c1 c2 c3 c4 c5 c6 c7 c8 c9 c10 c11 c12 c13 c14 c15 c16 c17 c18 (TV.val (Value.int u8 z0)::TV.val (Value.int u8 z1)::w)) (21:Nat) m))]),aF]) ⟨[(bD ([(c0),(c1),(c2),(c3),(c4),(c5),(c6),(c7),(c8),(c9),(c10),(c11),(c12),(c13),(c14),(c15),(c16),(c17),(c18),(.val (.int .u8 (z0))),(.val (.int .u8 (z1)))]++w)),(Hp z0 z1 c0 c1 c2 c3 c4 c5 c6 c7 c8 c9 c10 c11 c12 c13 c14 c15 c16 c17 c18 w m),(Hp z0 z1 c0 c1 c2 c3 c4 c5 c6 c7 c8 c9 c10 c11 c12 c13 c14 c15 c16 c17 c18 w m),(Hp z0 z1 c0 c1 c2 c3 c4 c5 c6 c7 c8 c9 c10 c11 c12 c13 c14 c15 c16 c17 c18 w m)],[]⟩)
 else Q ri (xT c0 c1 c2 c3 c4 c5 c6 c7 c8 c9 c10 c11 c12 c13 c14 c15 c16 c17 c18 z0 z1 w m))
 else Q ri (xT c0 c1 c2 c3 c4 c5 c6 c7 c8 c9 c10 c11 c12 c13 c14 c15 c16 c17 c18 z0 z1 w m))
 else Q ri (xT c0 c1 c2 c3 c4 c5 c6 c7 c8 c9 c10 c11 c12 c13 c14 c15 c16 c17 c18 z0 z1 w m))
 else Q ri (xT c0 c1 c2 c3 c4 c5 c6 c7 c8 c9 c10 c11 c12 c13 c14 c15 c16 c17 c18 z0 z1 w m))))))):=by kernel_rfl
abbrev Nb (z0:Int)(z1:Int)(z2:Int)(z3:Int)(z4:Int)(z5:Int)(z6:Int)(z7:Int)(z8:Int)(z9:Int)(z10:Int)(z11:Int)(z12:Int)(z13:Int)(z14:Int)(z15:Int)(z16:Int)(z17:Int)(z18:Int)(w:List TV):VT:=(oh ([(.val (.int .u8 (z0))),(.val (.int .u8 (z1))),(.val (.int .u8 (z2))),(.val (.int .u8 (z3))),(.val (.int .u8 (z4))),(.val (.int .u8 (z5))),(.val (.int .u8 (z6))),(.val (.int .u8 (z7))),(.val (.int .u8 (z8))),(.val (.int .u8 (z9))),(.val (.int .u8 (z10))),(.val (.int .u8 (z11))),(.val (.int .u8 (z12))),(.val (.int .u8 (z13))),(.val (.int .u8 (z14))),(.val (.int .u8 (z15))),(.val (.int .u8 (z16))),(.val (.int .u8 (z17))),(.val (.int .u8 (z18)))]++w))
theorem RI (z0 z1 z2 z3 z4 z5 z6 z7 z8 z9 z10 z11 z12 z13 z14 z15 z16 z17 z18:Int)(w:List TV)(m:Nat)(Q:TV→VT→Prop):ax prog ae bo (bB [(12,.row 1 0 16 (m+3),none)]) 300 aU 0 Ho [.row 1 0 0 (m+19),.val (.int .i64 16)] (cw (.row (xS z0 z1 z2 z3 z4 z5 z6 z7 z8 z9 z10 z11 z12 z13 z14 z15 z16 z17 z18 w))) Q=
 (bif !decide ((16:Int)≤wrap i64 ((↑(m+(19:Nat)):Int)-(2:Int)))
 then Q (.tup [aB,ak]) (Nb z0 z1 z2 z3 z4 z5 z6 z7 z8 z9 z10 z11 z12 z13 z14 z15 z16 z17 z18 w)
 else (aS prog (λ_=>.none) (.slice 22 (.tmp 10) (.some (.tmp 11)) .none .none) [(10,(.row 1 0 0 (m+(19:Nat)))),(11,(.val (.int .i64 16)))] (.row 1 0 16 (m+(3:Nat)))∧
 Q (.tup [(ah (wrap i64
  (wrap u64
   (↑(toNat
     (ofInt (IntKind.bits u64)
       (wrap u64 (wrap u64 (↑(toNat (ofInt (IntKind.bits u64) (wrap u64 ((0:Int)*(2:Int)^min (Int.toNat (8:Int)) (IntKind.bits u64))) ||| ofInt (IntKind.bits u64) (wrap u64 z16))):Int)*(2:Int)^min (Int.toNat (8:Int)) (IntKind.bits u64))) |||
      ofInt (IntKind.bits u64) (wrap u64 z17))):
    Int)))),aF]) (Nb z0 z1 z2 z3 z4 z5 z6 z7 z8 z9 z10 z11 z12 z13 z14 z15 z16 z17 z18 w))):=by kernel_rfl
abbrev Bl (z0:Int)(z1:Int)(z2:Int)(z3:Int)(z4:Int)(z5:Int)(z6:Int)(z7:Int)(z8:Int)(z9:Int)(z10:Int)(z11:Int)(z12:Int)(z13:Int)(z14:Int)(z15:Int)(z16:Int)(z17:Int)(z18:Int)(w:List TV):VT:=(VY ([(.val (.int .u8 (z0))),(.val (.int .u8 (z1))),(.val (.int .u8 (z2))),(.val (.int .u8 (z3))),(.val (.int .u8 (z4))),(.val (.int .u8 (z5))),(.val (.int .u8 (z6))),(.val (.int .u8 (z7))),(.val (.int .u8 (z8))),(.val (.int .u8 (z9))),(.val (.int .u8 (z10))),(.val (.int .u8 (z11))),(.val (.int .u8 (z12))),(.val (.int .u8 (z13))),(.val (.int .u8 (z14))),(.val (.int .u8 (z15))),(.val (.int .u8 (z16))),(.val (.int .u8 (z17))),(.val (.int .u8 (z18)))]++w) z16 z17)
abbrev Nc (z0:Int)(z1:Int)(z2:Int)(z3:Int)(z4:Int)(z5:Int)(z6:Int)(z7:Int)(z8:Int)(z9:Int)(z10:Int)(z11:Int)(z12:Int)(z13:Int)(z14:Int)(z15:Int)(z16:Int)(z17:Int)(z18:Int)(w:List TV):VT:=(VX ([(.val (.int .u8 (z0))),(.val (.int .u8 (z1))),(.val (.int .u8 (z2))),(.val (.int .u8 (z3))),(.val (.int .u8 (z4))),(.val (.int .u8 (z5))),(.val (.int .u8 (z6))),(.val (.int .u8 (z7))),(.val (.int .u8 (z8))),(.val (.int .u8 (z9))),(.val (.int .u8 (z10))),(.val (.int .u8 (z11))),(.val (.int .u8 (z12))),(.val (.int .u8 (z13))),(.val (.int .u8 (z14))),(.val (.int .u8 (z15))),(.val (.int .u8 (z16))),(.val (.int .u8 (z17))),(.val (.int .u8 (z18)))]++w) [[(.val (.int .u8 (z18)))]] z16 z17 [[(.val (.int .u8 (z18)))]])
abbrev Nd (z0:Int)(z1:Int)(z2:Int)(z3:Int)(z4:Int)(z5:Int)(z6:Int)(z7:Int)(z8:Int)(z9:Int)(z10:Int)(z11:Int)(z12:Int)(z13:Int)(z14:Int)(z15:Int)(z16:Int)(z17:Int)(z18:Int)(w:List TV):VT:=(VW ([(.val (.int .u8 (z0))),(.val (.int .u8 (z1))),(.val (.int .u8 (z2))),(.val (.int .u8 (z3))),(.val (.int .u8 (z4))),(.val (.int .u8 (z5))),(.val (.int .u8 (z6))),(.val (.int .u8 (z7))),(.val (.int .u8 (z8))),(.val (.int .u8 (z9))),(.val (.int .u8 (z10))),(.val (.int .u8 (z11))),(.val (.int .u8 (z12))),(.val (.int .u8 (z13))),(.val (.int .u8 (z14))),(.val (.int .u8 (z15))),(.val (.int .u8 (z16))),(.val (.int .u8 (z17))),(.val (.int .u8 (z18)))]++w) z16 z17)
theorem RJ (z0 z1 z2 z3 z4 z5 z6 z7 z8 z9 z10 z11 z12 z13 z14 z15 z16 z17 z18 x:Int)(r w:List TV)(m:Nat)(Q:TV→VT→Prop):ax prog aM (aT [(Ho,Me)]) (bB [(999998,.dead,none),(24,.ptr 0 18,none),(61,.ptr 0 18,none),(71,.elt (.val (.int .i64 x)::r),none)]) 300 aU 0 Av [.row 1 0 0 (m+19)] (cw (.row (xS z0 z1 z2 z3 z4 z5 z6 z7 z8 z9 z10 z11 z12 z13 z14 z15 z16 z17 z18 w))) Q=
 (((@Eq (Bool) true true)∧
 (RwOk ([(bh z0),(bh z1),(bh z2),(bh z3),(bh z4),(bh z5),(bh z6),(bh z7),(bh z8),(bh z9),(bh z10),(bh z11),(bh z12),(bh z13),(bh z14),(bh z15),(bh z16),(bh z17),(bh z18)]++w) 0 (m+(19:Nat))∧
 ((@Eq (Bool) true true)∧
 (@Eq (Nat) 0 0))))∧
 (aS prog (λkk=>(bif beq kk (0:Nat) then (.some pK) else .none)) (.indexAddr 22 (.tmp 23) (.const (.int .i64 18))) [(23,(.row 1 0 0 (m+(19:Nat))))] (.ptr 0 18)∧
 (((@Eq (Option TV) (.some (.agg [(bh z0),(bh z1),(bh z2),(bh z3),(bh z4),(bh z5),(bh z6),(bh z7),(bh z8),(bh z9),(bh z10),(bh z11),(bh z12),(bh z13),(bh z14),(bh z15)])) (.some (.agg [(bh z0),(bh z1),(bh z2),(bh z3),(bh z4),(bh z5),(bh z6),(bh z7),(bh z8),(bh z9),(bh z10),(bh z11),(bh z12),(bh z13),(bh z14),(bh z15)])))∧
 True)∧
 (bif av neq
  (aq
    ((λvs=>Value.agg (toArray vs))
      ((λx=>Value.int u8 z0::x)
        ((λx=>Value.int u8 z1::x)
          ((λx=>Value.int u8 z2::x)
            ((λx=>Value.int u8 z3::x)
              ((λx=>Value.int u8 z4::x)
                ((λx=>Value.int u8 z5::x)
                  ((λx=>Value.int u8 z6::x)
                    ((λx=>Value.int u8 z7::x)
                      ((λx=>Value.int u8 z8::x) ((λx=>Value.int u8 z9::x) ((λx=>Value.int u8 z10::x) ((λx=>Value.int u8 z11::x) ((λx=>Value.int u8 z12::x) ((λx=>Value.int u8 z13::x) ((λx=>Value.int u8 z14::x) ((λx=>Value.int u8 z15::x) [])))))))))))))))))
    ((λvs=>Value.agg (toArray vs))
      ((λx=>Value.int u8 (255:Int)::x)
        ((λx=>Value.int u8 (255:Int)::x)
          ((λx=>Value.int u8 (255:Int)::x)
            ((λx=>Value.int u8 (255:Int)::x)
              ((λx=>Value.int u8 (255:Int)::x)
                ((λx=>Value.int u8 (255:Int)::x)
                  ((λx=>Value.int u8 (255:Int)::x)
                    ((λx=>Value.int u8 (255:Int)::x)
                      ((λx=>Value.int u8 (255:Int)::x)
                        ((λx=>Value.int u8 (255:Int)::x) ((λx=>Value.int u8 (255:Int)::x) ((λx=>Value.int u8 (255:Int)::x) ((λx=>Value.int u8 (255:Int)::x) ((λx=>Value.int u8 (255:Int)::x) ((λx=>Value.int u8 (255:Int)::x) ((λx=>Value.int u8 (255:Int)::x) []))))))))))))))))))
 then Q (.tup [aB,aB,(.agg [eR,eR,aO])]) ⟨[(bD ([(.val (.int .u8 (z0))),(.val (.int .u8 (z1))),(.val (.int .u8 (z2))),(.val (.int .u8 (z3))),(.val (.int .u8 (z4))),(.val (.int .u8 (z5))),(.val (.int .u8 (z6))),(.val (.int .u8 (z7))),(.val (.int .u8 (z8))),(.val (.int .u8 (z9))),(.val (.int .u8 (z10))),(.val (.int .u8 (z11))),(.val (.int .u8 (z12))),(.val (.int .u8 (z13))),(.val (.int .u8 (z14))),(.val (.int .u8 (z15))),(.val (.int .u8 (z16))),(.val (.int .u8 (z17))),(.val (.int .u8 (z18)))]++w)),Qw,(Gx z16 z17),sX,sX,Qw],[]⟩
 else (bif decide (iM (an (xS z0 z1 z2 z3 z4 z5 z6 z7 z8 z9 z10 z11 z12 z13 z14 z15 z16 z17 z18 w) (0:Nat) (m+(19:Nat)))<(19:Int))
 then Q Gy (Bl z0 z1 z2 z3 z4 z5 z6 z7 z8 z9 z10 z11 z12 z13 z14 z15 z16 z17 z18 w)
 else (bif decide (iM (an (xS z0 z1 z2 z3 z4 z5 z6 z7 z8 z9 z10 z11 z12 z13 z14 z15 z16 z17 z18 w) (0:Nat) (m+(19:Nat)))>(4096:Int))
 then Q Gy (Bl z0 z1 z2 z3 z4 z5 z6 z7 z8 z9 z10 z11 z12 z13 z14 z15 z16 z17 z18 w)
 else (bif decide (wrap i64 z18<(1:Int))
 then (aS prog (λkk=>(bif beq kk (0:Nat) then (.some pK) else .none)) (.indexAddr 22 (.tmp 60) (.const (.int .i64 18))) [(60,(.row 1 0 0 (m+(19:Nat))))] (.ptr 0 18)∧
 Q (Qv [[(.val (.int .u8 (z18)))]]) (Nc z0 z1 z2 z3 z4 z5 z6 z7 z8 z9 z10 z11 z12 z13 z14 z15 z16 z17 z18 w))
 else (bif decide (wrap i64 z18>(4:Int))
 then (aS prog (λkk=>(bif beq kk (0:Nat) then (.some pK) else .none)) (.indexAddr 22 (.tmp 60) (.const (.int .i64 18))) [(60,(.row 1 0 0 (m+(19:Nat))))] (.ptr 0 18)∧
 Q (Qv [[(.val (.int .u8 (z18)))]]) (Nc z0 z1 z2 z3 z4 z5 z6 z7 z8 z9 z10 z11 z12 z13 z14 z15 z16 z17 z18 w))
 else (aS prog (λkk=>(bif beq kk (0:Nat) then (.some pK) else .none)) (.indexAddr 141 (.global 0) (.tmp 70)) [(70,(ah (wrap i64 z18)))] (.elt ([(.val (.int .i64 (x)))]++r))∧
 (bif decide (iM (an (xS z0 z1 z2 z3 z4 z5 z6 z7 z8 z9 z10 z11 z12 z13 z14 z15 z16 z17 z18 w) (0:Nat) (m+(19:Nat)))<x)
 then Q Gy (Bl z0 z1 z2 z3 z4 z5 z6 z7 z8 z9 z10 z11 z12 z13 z14 z15 z16 z17 z18 w)
 else (bif av eql (k6 (wrap i64 z18) (4:Int))
 then (bif decide (iM (an (xS z0 z1 z2 z3 z4 z5 z6 z7 z8 z9 z10 z11 z12 z13 z14 z15 z16 z17 z18 w) (0:Nat) (m+(19:Nat)))>(19:Int))
 then Q Gy (Bl z0 z1 z2 z3 z4 z5 z6 z7 z8 z9 z10 z11 z12 z13 z14 z15 z16 z17 z18 w)
 else Q (Qu (iM (an (xS z0 z1 z2 z3 z4 z5 z6 z7 z8 z9 z10 z11 z12 z13 z14 z15 z16 z17 z18 w) (0:Nat) (m+(19:Nat)))) (wrap i64 z18)) (Nd z0 z1 z2 z3 z4 z5 z6 z7 z8 z9 z10 z11 z12 z13 z14 z15 z16 z17 z18 w))
 else Q (Qu (iM (an (xS z0 z1 z2 z3 z4 z5 z6 z7 z8 z9 z10 z11 z12 z13 z14 z15 z16 z17 z18 w) (0:Nat) (m+(19:Nat)))) (wrap i64 z18)) (Nd z0 z1 z2 z3 z4 z5 z6 z7 z8 z9 z10 z11 z12 z13 z14 z15 z16 z17 z18 w)))))))))))):=by kernel_rfl
abbrev pw (BB:List TV)(m:Nat):TV:=(ah (eL (an BB (0:Nat) (m+(19:Nat)))))
abbrev uN (c0:TV)(c1:TV)(c2:TV)(c3:TV)(c4:TV)(c5:TV)(c6:TV)(c7:TV)(c8:TV)(c9:TV)(c10:TV)(c11:TV)(c12:TV)(c13:TV)(c14:TV)(c15:TV)(c16:TV)(c17:TV)(c18:TV)(w:List TV):VO:=(bD ([(c0),(c1),(c2),(c3),(c4),(c5),(c6),(c7),(c8),(c9),(c10),(c11),(c12),(c13),(c14),(c15),(c16),(c17),(c18)]++w))
abbrev Nf (BB:List TV)(m:Nat)(pas:Int):VO:=(VV (eL (an BB (0:Nat) (m+(19:Nat)))) (L7 (an BB (19:Nat) m) pas) (L8 (an BB (19:Nat) m) pas) (L9 (an BB (19:Nat) m) pas) (tz (an BB (19:Nat) m) pas))
abbrev Ng (BB:List TV)(m:Nat):VO:=(VU (eL (an BB (0:Nat) (m+(19:Nat)))) (Da (an BB (19:Nat) m)) (Db (an BB (19:Nat) m)) (Dc (an BB (19:Nat) m)))
theorem RK (c0 c1 c2 c3 c4 c5 c6 c7 c8 c9 c10 c11 c12 c13 c14 c15 c16 c17 c18:TV)(w:List TV)(m:Nat)(pas:Int)(Q:TV→VT→Prop):ax prog aM (aT [(Av,De),(EI,Jy),(E0,Jz),(CD,JA)]) (bB [(999999,.dead,none),(48,.row 1 0 19 m,none)]) 300 aU 0 E6 [.row 1 0 0 (m+19),.val (.int .i64 pas)] (cw (.row (gM c0 c1 c2 c3 c4 c5 c6 c7 c8 c9 c10 c11 c12 c13 c14 c15 c16 c17 c18 w))) Q=
 (λBB:List TV=>(((@Eq (Bool) true true)∧
 (RwOk ([(c0),(c1),(c2),(c3),(c4),(c5),(c6),(c7),(c8),(c9),(c10),(c11),(c12),(c13),(c14),(c15),(c16),(c17),(c18)]++w) 0 (m+(19:Nat))∧
 ((@Eq (Bool) true true)∧
 (@Eq (Nat) 0 0))))∧
 (bif dm (an BB (0:Nat) (m+(19:Nat)))
 then (bif av neq (k6 (bM (an BB (0:Nat) (m+(19:Nat)))) (↑(m+(19:Nat)):Int))
 then Q K9 (Qt ([(c0),(c1),(c2),(c3),(c4),(c5),(c6),(c7),(c8),(c9),(c10),(c11),(c12),(c13),(c14),(c15),(c16),(c17),(c18)]++w) c16 c17)
 else (aS prog (λkk=>(bif beq kk (0:Nat) then (.some pK) else .none)) (.slice 22 (.tmp 47) (.some (.const (.int .i64 19))) .none .none) [(47,(.row 1 0 0 (m+(19:Nat))))] (.row 1 0 19 m)∧
 (bif av eql (k6 (eL (an BB (0:Nat) (m+(19:Nat)))) (1:Int))
 then (((@Eq (Bool) true true)∧
 RwOk ([(c0),(c1),(c2),(c3),(c4),(c5),(c6),(c7),(c8),(c9),(c10),(c11),(c12),(c13),(c14),(c15),(c16),(c17),(c18)]++w) 19 (m))∧
 (bif iG (an BB (19:Nat) m) pas
 then Q (.tup [(.agg [(pw BB m),(ah (L7 (an BB (19:Nat) m) pas)),(ah (L8 (an BB (19:Nat) m) pas)),(jb (L9 (an BB (19:Nat) m) pas)),(ef (tz (an BB (19:Nat) m) pas)),aO,aB,aO,cF,aB,ak,aO,aB,aB,aO]),lN]) ⟨[(uN c0 c1 c2 c3 c4 c5 c6 c7 c8 c9 c10 c11 c12 c13 c14 c15 c16 c17 c18 w),(Nf BB m pas),cA,dk,oe,(.row [c16,c17]),(Nf BB m pas)],[]⟩
 else Q (.tup [Gw,(.agg [ei,(ah (tA (an BB (19:Nat) m) pas)),(aH (lT (an BB (19:Nat) m) pas))])]) ⟨[(uN c0 c1 c2 c3 c4 c5 c6 c7 c8 c9 c10 c11 c12 c13 c14 c15 c16 c17 c18 w),Cr,(.cells [ei,(ah (tA (an BB (19:Nat) m) pas)),(aH (lT (an BB (19:Nat) m) pas))]),(.cells [ei,(ah (tA (an BB (19:Nat) m) pas)),(aH (lT (an BB (19:Nat) m) pas))]),oe,(.row [c16,c17]),(.cells [(pw BB m),aB,aB,cF,(.vec 2 [] .none),aO,aB,aO,cF,aB,ak,aO,aB,aB,aO])],[]⟩))
 else (bif av eql (k6 (eL (an BB (0:Nat) (m+(19:Nat)))) (2:Int))
 then (((@Eq (Bool) true true)∧
 RwOk ([(c0),(c1),(c2),(c3),(c4),(c5),(c6),(c7),(c8),(c9),(c10),(c11),(c12),(c13),(c14),(c15),(c16),(c17),(c18)]++w) 19 (m))∧
 (bif jg (an BB (19:Nat) m)
 then Q (.tup [(.agg [(pw BB m),aB,aB,cF,aO,(ef (Hd (an BB (19:Nat) m))),(ah (He (an BB (19:Nat) m))),(aH (Hf (an BB (19:Nat) m))),(jb (Hg (an BB (19:Nat) m))),(ah (Hh (an BB (19:Nat) m))),(mB (Hi (an BB (19:Nat) m))),(ef (Hj (an BB (19:Nat) m))),aB,aB,aO]),lN]) ⟨[(uN c0 c1 c2 c3 c4 c5 c6 c7 c8 c9 c10 c11 c12 c13 c14 c15 c16 c17 c18 w),(.cells [(pw BB m),aB,aB,cF,aO,(ef (Hd (an BB (19:Nat) m))),(ah (He (an BB (19:Nat) m))),(aH (Hf (an BB (19:Nat) m))),(jb (Hg (an BB (19:Nat) m))),(ah (Hh (an BB (19:Nat) m))),(mB (Hi (an BB (19:Nat) m))),(ef (Hj (an BB (19:Nat) m))),aB,aB,aO]),cA,dk,oe,(.row [c16,c17]),(.cells [(pw BB m),aB,aB,cF,aO,(ef (Hd (an BB (19:Nat) m))),(ah (He (an BB (19:Nat) m))),(aH (Hf (an BB (19:Nat) m))),(jb (Hg (an BB (19:Nat) m))),(ah (Hh (an BB (19:Nat) m))),(mB (Hi (an BB (19:Nat) m))),(ef (Hj (an BB (19:Nat) m))),aB,aB,aO])],[]⟩
 else Q (.tup [Gw,(.agg [fK,(ah (tB (an BB (19:Nat) m))),(aH (lU (an BB (19:Nat) m)))])]) ⟨[(uN c0 c1 c2 c3 c4 c5 c6 c7 c8 c9 c10 c11 c12 c13 c14 c15 c16 c17 c18 w),Cr,(GH (tB (an BB (19:Nat) m)) (lU (an BB (19:Nat) m))),(GH (tB (an BB (19:Nat) m)) (lU (an BB (19:Nat) m))),oe,(.row [c16,c17]),(.cells [(pw BB m),aB,aB,cF,aO,(.vec 2 [] .none),aB,mN,cF,aB,ak,(.vec 2 [] .none),aB,aB,aO])],[]⟩))
 else (bif av eql (k6 (eL (an BB (0:Nat) (m+(19:Nat)))) (3:Int))
 then (((@Eq (Bool) true true)∧
 (RwOk ([(c0),(c1),(c2),(c3),(c4),(c5),(c6),(c7),(c8),(c9),(c10),(c11),(c12),(c13),(c14),(c15),(c16),(c17),(c18)]++w) 19 (m)∧
 ((@Eq (Nat) 19 19)∧
 (@Eq (Bool) (ble (2:Nat) m) true))))∧
 (bif jU (an BB (19:Nat) m)
 then Q (.tup [(.agg [(pw BB m),aB,aB,cF,aO,aO,aB,aO,cF,aB,ak,aO,(ah (Da (an BB (19:Nat) m))),(ah (Db (an BB (19:Nat) m))),(aH (Dc (an BB (19:Nat) m)))]),lN]) ⟨[(uN c0 c1 c2 c3 c4 c5 c6 c7 c8 c9 c10 c11 c12 c13 c14 c15 c16 c17 c18 w),(Ng BB m),cA,dk,oe,(.row [c16,c17]),(Ng BB m),(jG (Da (an BB (19:Nat) m)) (Db (an BB (19:Nat) m)) (Dc (an BB (19:Nat) m)))],[]⟩
 else Q K9 ⟨[(uN c0 c1 c2 c3 c4 c5 c6 c7 c8 c9 c10 c11 c12 c13 c14 c15 c16 c17 c18 w),Cr,oe,oe,oe,(.row [c16,c17]),(.cells [(pw BB m),aB,aB,cF,aO,aO,aB,aO,cF,aB,ak,aO,aB,aB,mN]),dk],[]⟩))
 else Q (Qs (eL (an BB (0:Nat) (m+(19:Nat))))) (Qr ([(c0),(c1),(c2),(c3),(c4),(c5),(c6),(c7),(c8),(c9),(c10),(c11),(c12),(c13),(c14),(c15),(c16),(c17),(c18)]++w) (eL (an BB (0:Nat) (m+(19:Nat)))) c16 c17 (eL (an BB (0:Nat) (m+(19:Nat))))))))))
 else Q (Qp (mG (an BB (0:Nat) (m+(19:Nat)))) (ll (an BB (0:Nat) (m+(19:Nat))))) (Qo ([(c0),(c1),(c2),(c3),(c4),(c5),(c6),(c7),(c8),(c9),(c10),(c11),(c12),(c13),(c14),(c15),(c16),(c17),(c18)]++w) (mG (an BB (0:Nat) (m+(19:Nat)))) (ll (an BB (0:Nat) (m+(19:Nat)))) (mG (an BB (0:Nat) (m+(19:Nat)))) (ll (an BB (0:Nat) (m+(19:Nat)))))))) (gM c0 c1 c2 c3 c4 c5 c6 c7 c8 c9 c10 c11 c12 c13 c14 c15 c16 c17 c18 w):=by kernel_rfl
abbrev Bm (c0:TV)(c1:TV)(c2:TV)(c3:TV)(c4:TV)(c5:TV)(c6:TV)(c7:TV)(c8:TV)(c9:TV)(c10:TV)(c11:TV)(c12:TV)(c13:TV)(c14:TV)(c15:TV)(c16:TV)(c17:TV)(c18:TV)(z0:Int)(z1:Int)(w:List TV):VT:=(VS ([(c0),(c1),(c2),(c3),(c4),(c5),(c6),(c7),(c8),(c9),(c10),(c11),(c12),(c13),(c14),(c15),(c16),(c17),(c18),(.val (.int .u8 (z0))),(.val (.int .u8 (z1)))]++w) (wrap i64 z0) (wrap i64 z1) (wrap i64 z0) (wrap i64 z1))
abbrev Hq (z0:Int)(z1:Int):VO:=(la (wrap i64 z0) (wrap i64 z1))
theorem Pp (c0 c1 c2 c3 c4 c5 c6 c7 c8 c9 c10 c11 c12 c13 c14 c15 c16 c17 c18:TV)(z0 z1:Int)(w:List TV)(Q:TV→VT→Prop):ax prog ae (aT [(m5,mC)]) (bB [(999998,.dead,none)]) 300 aU 0 CD [.row 1 0 19 2] (cw (.row (gM c0 c1 c2 c3 c4 c5 c6 c7 c8 c9 c10 c11 c12 c13 c14 c15 c16 c17 c18 (.val (.int .u8 z0):: .val (.int .u8 z1)::w)))) Q=
 (IsB []∧
 (((@Eq (Option TV) (.some (bh z1)) (.some (bh z1)))∧
 ((@Eq (Option TV) (.some (bh z0)) (.some (bh z0)))∧
 True))∧
 (bif decide (wrap i64 z0≥(1:Int))
 then (bif decide (wrap i64 z0≤(255:Int))
 then (bif decide (wrap i64 z1≥(0:Int))
 then (bif decide (wrap i64 z1≤(255:Int))
 then Q (.tup [(.agg [(ah (wrap i64 z0)),(ah (wrap i64 z1)),mN]),aF]) ⟨[(bD ([(c0),(c1),(c2),(c3),(c4),(c5),(c6),(c7),(c8),(c9),(c10),(c11),(c12),(c13),(c14),(c15),(c16),(c17),(c18),(.val (.int .u8 (z0))),(.val (.int .u8 (z1)))]++w)),(Hq z0 z1),(Hq z0 z1),(Hq z0 z1)],[]⟩
 else Q ri (Bm c0 c1 c2 c3 c4 c5 c6 c7 c8 c9 c10 c11 c12 c13 c14 c15 c16 c17 c18 z0 z1 w))
 else Q ri (Bm c0 c1 c2 c3 c4 c5 c6 c7 c8 c9 c10 c11 c12 c13 c14 c15 c16 c17 c18 z0 z1 w))
 else Q ri (Bm c0 c1 c2 c3 c4 c5 c6 c7 c8 c9 c10 c11 c12 c13 c14 c15 c16 c17 c18 z0 z1 w))
 else Q ri (Bm c0 c1 c2 c3 c4 c5 c6 c7 c8 c9 c10 c11 c12 c13 c14 c15 c16 c17 c18 z0 z1 w)))):=by kernel_rfl
theorem Pq (c0 c1 c2 c3 c4 c5 c6 c7 c8 c9 c10 c11 c12 c13 c14 c15 c16 c17 c18:TV)(w:List TV)(pas:Int)(Q:TV→VT→Prop):ax prog aM (aT [(Av,De),(EI,Jy),(E0,Jz),(CD,JA)]) (bB [(999999,.dead,none)]) 300 aU 0 E6 [.row 1 0 0 19,.val (.int .i64 pas)] (cw (.row (gM c0 c1 c2 c3 c4 c5 c6 c7 c8 c9 c10 c11 c12 c13 c14 c15 c16 c17 c18 w))) Q=
 (((@Eq (Bool) true true)∧
 (RwOk ([(c0),(c1),(c2),(c3),(c4),(c5),(c6),(c7),(c8),(c9),(c10),(c11),(c12),(c13),(c14),(c15),(c16),(c17),(c18)]++w) 0 19∧
 ((@Eq (Bool) true true)∧
 (@Eq (Nat) 0 0))))∧
 (bif dm (an (gM c0 c1 c2 c3 c4 c5 c6 c7 c8 c9 c10 c11 c12 c13 c14 c15 c16 c17 c18 w) (0:Nat) (19:Nat))
 then (bif av neq (k6 (bM (an (gM c0 c1 c2 c3 c4 c5 c6 c7 c8 c9 c10 c11 c12 c13 c14 c15 c16 c17 c18 w) (0:Nat) (19:Nat))) (↑(19:Nat):Int))
 then Q K9 (Qt ([(c0),(c1),(c2),(c3),(c4),(c5),(c6),(c7),(c8),(c9),(c10),(c11),(c12),(c13),(c14),(c15),(c16),(c17),(c18)]++w) c16 c17)
 else (bif av eql (k6 (eL (an (gM c0 c1 c2 c3 c4 c5 c6 c7 c8 c9 c10 c11 c12 c13 c14 c15 c16 c17 c18 w) (0:Nat) (19:Nat))) (1:Int))
 then False
 else (bif av eql (k6 (eL (an (gM c0 c1 c2 c3 c4 c5 c6 c7 c8 c9 c10 c11 c12 c13 c14 c15 c16 c17 c18 w) (0:Nat) (19:Nat))) (2:Int))
 then False
 else (bif av eql (k6 (eL (an (gM c0 c1 c2 c3 c4 c5 c6 c7 c8 c9 c10 c11 c12 c13 c14 c15 c16 c17 c18 w) (0:Nat) (19:Nat))) (3:Int))
 then False
 else Q (Qs (eL (an (gM c0 c1 c2 c3 c4 c5 c6 c7 c8 c9 c10 c11 c12 c13 c14 c15 c16 c17 c18 w) (0:Nat) (19:Nat)))) (Qr ([(c0),(c1),(c2),(c3),(c4),(c5),(c6),(c7),(c8),(c9),(c10),(c11),(c12),(c13),(c14),(c15),(c16),(c17),(c18)]++w) (eL (an (gM c0 c1 c2 c3 c4 c5 c6 c7 c8 c9 c10 c11 c12 c13 c14 c15 c16 c17 c18 w) (0:Nat) (19:Nat))) c16 c17 (eL (an (gM c0 c1 c2 c3 c4 c5 c6 c7 c8 c9 c10 c11 c12 c13 c14 c15 c16 c17 c18 w) (0:Nat) (19:Nat))))))))
 else Q (Qp (mG (an (gM c0 c1 c2 c3 c4 c5 c6 c7 c8 c9 c10 c11 c12 c13 c14 c15 c16 c17 c18 w) (0:Nat) (19:Nat))) (ll (an (gM c0 c1 c2 c3 c4 c5 c6 c7 c8 c9 c10 c11 c12 c13 c14 c15 c16 c17 c18 w) (0:Nat) (19:Nat)))) (Qo ([(c0),(c1),(c2),(c3),(c4),(c5),(c6),(c7),(c8),(c9),(c10),(c11),(c12),(c13),(c14),(c15),(c16),(c17),(c18)]++w) (mG (an (gM c0 c1 c2 c3 c4 c5 c6 c7 c8 c9 c10 c11 c12 c13 c14 c15 c16 c17 c18 w) (0:Nat) (19:Nat))) (ll (an (gM c0 c1 c2 c3 c4 c5 c6 c7 c8 c9 c10 c11 c12 c13 c14 c15 c16 c17 c18 w) (0:Nat) (19:Nat))) (mG (an (gM c0 c1 c2 c3 c4 c5 c6 c7 c8 c9 c10 c11 c12 c13 c14 c15 c16 c17 c18 w) (0:Nat) (19:Nat))) (ll (an (gM c0 c1 c2 c3 c4 c5 c6 c7 c8 c9 c10 c11 c12 c13 c14 c15 c16 c17 c18 w) (0:Nat) (19:Nat)))))):=by kernel_rfl
theorem VCx.leRow {P:Program}{G:aP}{f:FuncId}{xs:List TV}{cs:List TV}{y:TV}(hc:∀f g,(VO.row cs).ren f g=.row cs)(hy:∀f g,y.ren f g=y)(h:VCx P G 0 f xs ⟨[.row cs],[]⟩ λx T'=>TVle x y∧T'.objs[0]?=some (.row cs)):
 VCx P G 0 f xs ⟨[.row cs],[]⟩ λx T'=>x=y∧T'=⟨[.row cs],[]⟩:=VCx.fzRow hc hy (h.mono λ_ T' ⟨h1,h2⟩=>⟨T',.le h1,le_refl _,h2⟩)
section
variable {cs:List TV}{off n:Nat}
theorem RL (h:RwOk cs off n):VCx prog ae 0 m5 [.row 1 0 off n] ⟨[.row cs],[]⟩ λx T'=>x=.vec 1 (an cs off n) .none∧T'=⟨[.row cs],[]⟩:=by
 have hb:=h.is
 refine VCx.fzRow h.ren (λf g=>by simp only [TV.ren,hb.ren,Tok.ren]) ?_
 cases n with
 |zero=>
  refine aj ac aa ai ag (Pn cs off _) ⟨?_,⟨_,.le (.vec 1 _ _),le_refl _,rfl⟩⟩
  obtain ⟨inf,i1,i2,i3,i4⟩:=cJ
  have hr:bL ⟨[.row cs],[]⟩ 1 (.row 1 0 off 0)=some []:=by
   have h1:=h.1
   simp only [bL,List.getElem?_cons_zero,beq_refl,Bool.true_and,mul_one,ble_eq_true_of_le h1,cond_true]
   rfl
  have ht:=Hm (P:=prog) (G:=ae) (ro:=0) (T:=⟨[.row cs],[]⟩) (t:=22) (tx:=22) (s:=.tmp 5) (x:=.tmp 6) (l:= [(5,.vec 1 [] .full),(6,.row 1 0 off 0)]) (inf:=inf) (id:=0) (off:=off) (n:=0) underlying22 i1 i4 (by rw [i2];rfl) (by rfl) (by kernel_rfl) (by rw [i2];rfl) (by rw [i2];rfl) (by rw [i2];exact hr)
  rw [i2] at ht
  exact ht
 |succ n=>
  obtain ⟨q0,qs,hq⟩:∃q0 qs,an cs off (n+1)=q0::qs:=⟨_,_,rfl⟩
  have hl:(q0::qs).length=n+1:=by rw [←hq];exact io _ _ _
  have hr:bL ⟨[.row cs],[]⟩ 1 (.row 1 0 off (n+1))=some (q0::qs):=by
   have h1:=h.1
   simp only [bL,List.getElem?_cons_zero,beq_refl,Bool.true_and,mul_one,ble_eq_true_of_le h1,cond_true]
   rw [←hq];rfl
  obtain ⟨inf,i1,i2,i3,i4⟩:=cJ
  refine aj ac aa ai ag (RG cs (q0::qs).flatten off (n+1) _) ⟨?_,?_⟩
  ·have ht:=Hl (P:=prog) (G:=ae) (ro:=0) (T:=⟨[.row cs],[]⟩) (t:=22) (tx:=22) (s:=.tmp 5) (x:=.tmp 6) (l:= [(5,.vec 1 [] .full),(6,.row 1 0 off (n+1))]) (inf:=inf) (q0:=q0) (qs:=qs) (id:=0) (off:=off) (n:=n+1) underlying22 i1 i4 (by rw [i2];rfl) (by rfl) (by kernel_rfl) (by rw [i2];rfl) (by rw [i2];rfl) (by rw [i2];exact hr) (by
     have:=h.1
     have:=h.2.1
     rw [i3,hl];omega)
   rw [i2,hl] at ht
   exact ht
  ·rw [hq]
   refine ⟨_,.row (es:=q0::qs) ?_,E7 _ 1,rfl⟩
   rw [←hl]
   exact jC rfl (by rw [←hq];exact hb.len1)
theorem JB:∀ro ys T K,Na ro ys T K→VCx prog ae ro m5 ys T K:=by
 intro ro ys T K hw
 unfold Na at hw
 split at hw
 ·split at hw
  ·rename_i k off n cs ho
   obtain ⟨⟨hro,h⟩,hk⟩:=hw
   exact VCx.atRow aV (le_of_ble_eq_true hro) ho h.ren (λf g=>by simp only [TV.ren,h.is.ren,Tok.ren]) (by simp [aw,TV.ren,aL]) (RL h) hk
  ·exact hw.elim
 ·exact hw.elim
theorem Ps (h:RwOk cs off n):VCx prog ae 0 ke [.row 1 0 off n] ⟨[.row cs],[]⟩ λx T'=>x=.ptr 1 0∧T'=⟨[.row cs,aG (an cs off n) 0 0],[]⟩:=
 aj ac aa (aZ λp hp=>by obtain rfl:=mem_singleton.1 hp;exact JB) ag (Pm cs off n _) ⟨⟨rfl,h⟩,rfl,rfl⟩
theorem JC:∀ro ys T K,E8 ro ys T K→VCx prog ae ro ke ys T K:=by
 intro ro ys T K hw
 unfold E8 at hw
 split at hw
 ·split at hw
  ·rename_i k off n _ cs ho
   obtain ⟨⟨hro,h⟩,hk⟩:=hw
   refine VCx.at1 (Q:=λx o' l'=>x=.ptr 1 0∧o'=.row cs∧l'= [aG (an cs off n) 0 0]) aV (le_of_ble_eq_true hro) ho rfl (h.ren _ _) (ys1:= [.row 1 0 off n]) (by simp [aw,TV.ren,aL]) ((Ps h).mono λx T' ⟨h1,h2⟩=>⟨_,_,h2,h1,rfl,rfl⟩) ?_
   rintro x o' l' ⟨rfl,rfl,rfl⟩
   rw [h.ren,rh ho]
   simpa [TV.ren,aJ,bK h.is] using hk
  ·exact hw.elim
 ·exact hw.elim
end
section
variable {b:Bs}{cs:List TV}
theorem lV {s:Int}{d:Bs}{dz:TV}{T':VT}(h0:T'.objs[0]?=some (.row cs))(h:iL b=.inl (s,d))(hd:TVle dz (.vec 1 d .none)):TVle (TV.tup [.agg [.val (.slice none 0 0),.val (.int .i64 0),.val (.slice none 0 0),.val (.int .u32 0),.val (.int .i64 0),.val (.bool false),.val (.slice none 0 0)],.agg [.val (.int .i64 3),.val (.int .i64 s),dz]]) (pq b)∧T'.objs[0]?=some (.row cs):=by
 unfold pq C6
 rw [h]
 exact ⟨.tup ⟨.agg ⟨.nil 2,.refl _,.nil 1,.refl _,.refl _,.refl _,.nil 2,trivial⟩,.agg ⟨.refl _,.refl _,hd,trivial⟩,trivial⟩,h0⟩
theorem oC {T':VT}{pz:TV}(h0:T'.objs[0]?=some (.row cs))(h:iL b=.inr {kK with w:=aX (gJ b),n:=aX (dQ b)})(hp:TVle pz (.vec 1 [] .none)):TVle (TV.tup [.agg [.vec 2 (aX (gJ b)) .none,.val (.int .i64 0),pz,.val (.int .u32 0),.val (.int .i64 0),.val (.bool false),.vec 2 (aX (dQ b)) .none],.agg [.val (.int .i64 0),.val (.int .i64 0),.val (.slice none 0 0)]]) (pq b)∧T'.objs[0]?=some (.row cs):=by
 unfold pq C6
 rw [h]
 exact ⟨.tup ⟨.agg ⟨.refl _,.refl _,hp,.refl _,.refl _,.refl _,.refl _,trivial⟩,.agg ⟨.refl _,.refl _,.nil 1,trivial⟩,trivial⟩,h0⟩
theorem Df {T':VT}(h0:T'.objs[0]?=some (.row cs))(h:iL b=.inr ⟨aX (gJ b),mS (cm b),iF (cm b),mT (cm b),mU (cm b),mV (cm b),aX (dQ b)⟩):TVle (TV.tup [.agg [.vec 2 (aX (gJ b)) .none,.val (.int .i64 (mS (cm b))),.vec 1 (iF (cm b)) .none,.val (.int .u32 (mT (cm b))),.val (.int .i64 (mU (cm b))),.val (.bool (mV (cm b))),.vec 2 (aX (dQ b)) .none],.agg [.val (.int .i64 0),.val (.int .i64 0),.val (.slice none 0 0)]]) (pq b)∧T'.objs[0]?=some (.row cs):=by
 unfold pq C6
 rw [h]
 exact ⟨.tup ⟨.refl _,.agg ⟨.refl _,.refl _,.nil 1,trivial⟩,trivial⟩,h0⟩
end
theorem RM {cs:List TV}{off n:Nat}(hr:RwOk cs off n):VCx prog ae 0 E0 [.row 1 0 off n] ⟨[.row cs],[]⟩ λx T'=>x=pq (an cs off n)∧T'=⟨[.row cs],[]⟩:=by
 have hb:=hr.is
 have hS:bu prog ae (aT [(ke,E8),(mn,ly .i64 2),(jK,Ak),(GT,xr),(jc,lv),(ot,Hc),(ts,M6)]):=aZ λp hp=>by
  rcases mem_cons.1 hp with rfl | hp;exact JC
  rcases mem_cons.1 hp with rfl | hp;exact λro ys T K h=>uI _ _ _ _ (mD h)
  rcases mem_cons.1 hp with rfl | hp;exact λro ys T K h=>s9 _ _ _ _ (CC h)
  rcases mem_cons.1 hp with rfl | hp;exact λro ys T K h=>QR _ _ _ _ (IP h)
  rcases mem_cons.1 hp with rfl | hp;exact qp
  rcases mem_cons.1 hp with rfl | hp;exact Pe λ_ h=>Q3 h
  obtain rfl:=mem_singleton.1 hp;exact Rx Rv
 refine VCx.leRow hr.ren (EZ hb) (aj ac aa hS ag (RE cs off n _) ?_)
 refine ⟨⟨rfl,hr⟩,⟨rfl,hb⟩,?_⟩
 generalize an cs off n=b at hb
 intro z bz az ez hq1
 have hbz:IsB bz:=by rw [hq1.2.1];exact aC hb
 refine ⟨⟨rfl,hbz⟩,?_⟩
 intro v b2 a2 e2 hq2
 have hb2:IsB b2:=by rw [hq2.2.1];exact aC hbz
 refine ⟨⟨rfl,hb2⟩,?_⟩
 intro z3 b3 a3 e3 hq3
 have hb3:IsB b3:=by rw [hq3.2.1];exact aC hb2
 refine ⟨⟨rfl,hb3⟩,?_⟩
 intro v4 b4 a4 e4 hq4
 have hb4:IsB b4:=by rw [hq4.2.1];exact aC hb3
 refine ⟨⟨rfl,hb4⟩,?_⟩
 intro v5 b5 a5 e5 hq5
 have hb5:IsB b5:=by rw [hq5.2.1];exact aC hb4
 refine ⟨⟨rfl,hb5⟩,?_⟩
 obtain ⟨rfl,rfl,rfl,rfl⟩:=Ry (z2:=0) (e6:=0) hq1 hq2 hq3 hq4 ⟨hq5.1,hq5.2.2⟩
 have hG:=Jk hb
 have hA:=xJ hb
 have hN:=Jl hb
 refine am (λc1=> ?_) (λc1=> ?_)
 ·exact lV rfl (by unfold iL;rw [if_pos (fe c1)]) (.nil 1)
 replace c1:Rw b=0:=fg c1
 refine ⟨hG,am (λc2=> ?_) (λc2=> ?_)⟩
 rotate_left
 ·exact lV rfl (by unfold iL;rw [if_neg (λc=>c c1),c2];rfl) (.nil 1)
 refine ⟨hN,am (λc3=> ?_) (λc3=> ?_)⟩
 rotate_left
 ·exact lV rfl (by unfold iL;rw [if_neg (λc=>c c1),c2,c3];rfl) (.nil 1)
 have hu:iL b=(if (cm b).length=0∧(aX (dQ b)).length=0 then .inr {kK with w:=aX (gJ b),n:=aX (dQ b)}
  else bif g8 (cm b) then (if 0<(aX (dQ b)).length then .inr ⟨aX (gJ b),mS (cm b),iF (cm b),mT (cm b),mU (cm b),mV (cm b),aX (dQ b)⟩ else .inr {kK with w:=aX (gJ b),n:=aX (dQ b)})
  else if 0<(aX (dQ b)).length then .inl (jL (cm b),je (cm b)) else if jL (cm b)=3 then .inr {kK with w:=aX (gJ b),n:=aX (dQ b)} else .inl (jL (cm b),je (cm b))):=by
  unfold iL;rw [if_neg (λc=>c c1),c2,c3];rfl
 refine am (λc4=> ?_) (λc4=> ?_)
 ·replace c4:=dI c4
  refine am (λc5=> ?_) (λc5=> ?_)
  ·exact oC rfl (by rw [hu,if_pos ⟨ofNat_inj.1 c4,ofNat_inj.1 (dI c5)⟩]) (.nil 1)
  have hne:¬((cm b).length=0∧(aX (dQ b)).length=0):=λh=>dl c5 (ofNat_inj.2 h.2)
  refine ⟨hA,am (λc6=> ?_) (λc6=> ?_)⟩
  ·refine am (λc7=> ?_) (λc7=> ?_)
   ·exact bd c7 (Df rfl (by rw [hu,if_neg hne,c6];simp only [cond_true];rw [if_pos (M7 c7)]))
   ·exact bg c7 (oC rfl (by rw [hu,if_neg hne,c6];simp only [cond_true];rw [if_neg (zg c7)]) (.nil 1))
  ·refine am (λc7=> ?_) (λc7=> ?_)
   ·exact lV rfl (by rw [hu,if_neg hne,c6];simp only [cond_false];rw [if_pos (M7 c7)]) (.refl _)
   refine am (λc8=> ?_) (λc8=> ?_)
   ·exact lV rfl (by rw [hu,if_neg hne,c6];simp only [cond_false];rw [if_neg (zg c7),if_neg (fe c8)]) (.refl _)
   ·exact bg c7 (oC rfl (by rw [hu,if_neg hne,c6];simp only [cond_false];rw [if_neg (zg c7),if_pos (fg c8)]) (.nil 1))
 ·have hne:¬((cm b).length=0∧(aX (dQ b)).length=0):=λh=>dl c4 (ofNat_inj.2 h.1)
  refine ⟨hA,am (λc6=> ?_) (λc6=> ?_)⟩
  ·refine am (λc7=> ?_) (λc7=> ?_)
   ·exact bd c7 (Df rfl (by rw [hu,if_neg hne,c6];simp only [cond_true];rw [if_pos (M7 c7)]))
   ·exact bg c7 (oC rfl (by rw [hu,if_neg hne,c6];simp only [cond_true];rw [if_neg (zg c7)]) (.nil 1))
  ·refine am (λc7=> ?_) (λc7=> ?_)
   ·exact lV rfl (by rw [hu,if_neg hne,c6];simp only [cond_false];rw [if_pos (M7 c7)]) (.refl _)
   refine am (λc8=> ?_) (λc8=> ?_)
   ·exact lV rfl (by rw [hu,if_neg hne,c6];simp only [cond_false];rw [if_neg (zg c7),if_neg (fe c8)]) (.refl _)
   ·exact bg c7 (oC rfl (by rw [hu,if_neg hne,c6];simp only [cond_false];rw [if_neg (zg c7),if_pos (fg c8)]) (.nil 1))
set_option maxHeartbeats 1000000 in
theorem RN {cs:List TV}{off n:Nat}(hr:RwOk cs off n)(pas:Int):VCx prog ae 0 EI [.row 1 0 off n,.val (.int .i64 pas)] ⟨[.row cs],[]⟩ λx T'=>x=jV (an cs off n) pas∧T'=⟨[.row cs],[]⟩:=by
 have hb:=hr.is
 have hS:bu prog ae (aT [(ke,E8),(iD,ly .i64 1),(mn,ly .i64 2),(Bc,ly .u32 4),(kf,m4),(mQ,MX)]):=aZ λp hp=>by
  rcases mem_cons.1 hp with rfl | hp;exact JC
  rcases mem_cons.1 hp with rfl | hp;exact λro ys T K h=>qo _ _ _ _ (mD h)
  rcases mem_cons.1 hp with rfl | hp;exact λro ys T K h=>uI _ _ _ _ (mD h)
  rcases mem_cons.1 hp with rfl | hp;exact λro ys T K h=>Of _ _ _ _ (mD h)
  rcases mem_cons.1 hp with rfl | hp;exact oq
  obtain rfl:=mem_singleton.1 hp;exact Ra
 have hX:=E3 pas hb
 refine VCx.leRow hr.ren hX (aj ac aa hS ag (RF cs off n pas _) ?_)
 clear hX
 by_cases h10:(an cs off n).length<10
 ·refine bd (decide_eq_true (by rw [io] at h10;omega)) ⟨?_,rfl⟩
  unfold jV;rw [if_pos h10];exact dg 0
 refine bg (decide_eq_false (by rw [io] at h10;omega)) ⟨⟨rfl,hr⟩,⟨rfl,hb⟩,?_⟩
 generalize an cs off n=b at*
 intro z bz az ez hq
 have hbz:IsB bz:=by rw [hq.2.1];exact aC hb
 refine am (λh=> ?_) (λh=> ?_)
 ·refine ⟨?_,rfl⟩
  have h4:=fe h;rw [hq.1] at h4
  unfold jV;rw [if_neg h10,if_pos h4];exact LP _
 have h4:=fg h;rw [hq.1] at h4
 have hX:jV b pas=xw bz ez pas:=by unfold jV;rw [if_neg h10,if_neg (λc=>c h4),hq.2.1,hq.2.2];rfl
 refine ⟨⟨rfl,hbz⟩,?_⟩
 intro n b2 a2 e2 hq2
 have hb2:IsB b2:=by rw [hq2.2.1];exact aC hbz
 refine ⟨⟨rfl,hb2⟩,?_⟩
 intro hh b3 a3 e3 hq3
 have hb3:IsB b3:=by rw [hq3.2.1];exact aC hb2
 refine ⟨⟨rfl,hb3⟩,?_⟩
 intro i b4 a4 e4 hq4
 have hb4:IsB b4:=by rw [hq4.2.1];exact aC hb3
 refine ⟨⟨rfl,hb4⟩,?_⟩
 intro k b5 a5 e5 hq5
 have hb5:IsB b5:=by rw [hq5.2.1];exact aC hb4
 have hM:jV b pas=fU n hh i k b5 e5 pas:=by
  rw [hX]
  obtain ⟨rfl,rfl,rfl⟩:=hq2
  obtain ⟨rfl,rfl,rfl⟩:=hq3
  obtain ⟨rfl,rfl,rfl⟩:=hq4
  obtain ⟨rfl,rfl,rfl⟩:=hq5
  rfl
 clear hX hq hq2 hq3 hq4 hq5
 rw [hM]
 refine am (λc1=> ?_) (λc1=> ?_)
 ·rw [Ut (dI c1)];exact ⟨dg 2,rfl⟩
 have d1:=dl c1
 refine am (λc2=> ?_) (λc2=> ?_)
 ·have d2:=of_decide_eq_true c2
  refine am (λc3=> ?_) (λc3=> ?_)
  ·rw [Uu d1 d2 (fe c3)];exact ⟨dg 2,rfl⟩
  ·have d3:¬(pas≥1∧¬n=pas):=λc=>c.2 (fg c3)
   refine am (λc4=> ?_) (λc4=> ?_)
   ·have d4:hh=0∨(hh≥3∧hh≤65535):=.inl (dI c4)
    refine am (λc5=> ?_) (λc5=> ?_)
    ·rw [Bf d1 d3 d4 (dI c5)];exact ⟨dg 3,rfl⟩
    refine ⟨⟨rfl,hb5⟩,?_⟩
    refine am (λc6=> ?_) (λc6=> ?_)
    ·rw [Bg d1 d3 d4 (dl c5) (fe c6)];exact ⟨dg 0,rfl⟩
    refine ⟨⟨rfl,hb5⟩,λby6 ay6 ey6=> ?_⟩
    rw [Bh d1 d3 d4 (dl c5) (fg c6)]
    cases gI b5 e5
    ·exact ⟨dg _,rfl⟩
    ·refine ⟨?_,rfl⟩
     exact uL _ _ _ _ _
   ·have d0:=dl c4
    refine am (λc4a=> ?_) (λc4a=> ?_)
    ·have d4a:=of_decide_eq_true c4a
     refine am (λc4b=> ?_) (λc4b=> ?_)
     ·have d4:¬(hh=0∨(hh≥3∧hh≤65535)):=by
       have:=of_decide_eq_false (show decide (hh≤65535)=false by cases h:decide (hh≤65535)<;>simp_all)
       omega
      rw [Be d1 d3 d4];exact ⟨dg 6,rfl⟩
     ·have d4:hh=0∨(hh≥3∧hh≤65535):=.inr ⟨d4a,of_decide_eq_true (by simpa using c4b)⟩
      refine am (λc5=> ?_) (λc5=> ?_)
      ·rw [Bf d1 d3 d4 (dI c5)];exact ⟨dg 3,rfl⟩
      refine ⟨⟨rfl,hb5⟩,?_⟩
      refine am (λc6=> ?_) (λc6=> ?_)
      ·rw [Bg d1 d3 d4 (dl c5) (fe c6)];exact ⟨dg 0,rfl⟩
      refine ⟨⟨rfl,hb5⟩,λby6 ay6 ey6=> ?_⟩
      rw [Bh d1 d3 d4 (dl c5) (fg c6)]
      cases gI b5 e5
      ·exact ⟨dg _,rfl⟩
      ·refine ⟨?_,rfl⟩
       exact uL _ _ _ _ _
    ·have d4a:=of_decide_eq_false c4a
     have d4:¬(hh=0∨(hh≥3∧hh≤65535)):=by omega
     rw [Be d1 d3 d4];exact ⟨dg 6,rfl⟩
 ·have d3:¬(pas≥1∧¬n=pas):=λc=>of_decide_eq_false c2 c.1
  refine am (λc4=> ?_) (λc4=> ?_)
  ·have d4:hh=0∨(hh≥3∧hh≤65535):=.inl (dI c4)
   refine am (λc5=> ?_) (λc5=> ?_)
   ·rw [Bf d1 d3 d4 (dI c5)];exact ⟨dg 3,rfl⟩
   refine ⟨⟨rfl,hb5⟩,?_⟩
   refine am (λc6=> ?_) (λc6=> ?_)
   ·rw [Bg d1 d3 d4 (dl c5) (fe c6)];exact ⟨dg 0,rfl⟩
   refine ⟨⟨rfl,hb5⟩,λby6 ay6 ey6=> ?_⟩
   rw [Bh d1 d3 d4 (dl c5) (fg c6)]
   cases gI b5 e5
   ·exact ⟨dg _,rfl⟩
   ·refine ⟨?_,rfl⟩
    exact uL _ _ _ _ _
  ·have d0:=dl c4
   refine am (λc4a=> ?_) (λc4a=> ?_)
   ·have d4a:=of_decide_eq_true c4a
    refine am (λc4b=> ?_) (λc4b=> ?_)
    ·have d4:¬(hh=0∨(hh≥3∧hh≤65535)):=by
      have:=of_decide_eq_false (show decide (hh≤65535)=false by cases h:decide (hh≤65535)<;>simp_all)
      omega
     rw [Be d1 d3 d4];exact ⟨dg 6,rfl⟩
    ·have d4:hh=0∨(hh≥3∧hh≤65535):=.inr ⟨d4a,of_decide_eq_true (by simpa using c4b)⟩
     refine am (λc5=> ?_) (λc5=> ?_)
     ·rw [Bf d1 d3 d4 (dI c5)];exact ⟨dg 3,rfl⟩
     refine ⟨⟨rfl,hb5⟩,?_⟩
     refine am (λc6=> ?_) (λc6=> ?_)
     ·rw [Bg d1 d3 d4 (dl c5) (fe c6)];exact ⟨dg 0,rfl⟩
     refine ⟨⟨rfl,hb5⟩,λby6 ay6 ey6=> ?_⟩
     rw [Bh d1 d3 d4 (dl c5) (fg c6)]
     cases gI b5 e5
     ·exact ⟨dg _,rfl⟩
     ·refine ⟨?_,rfl⟩
      exact uL _ _ _ _ _
   ·have d4a:=of_decide_eq_false c4a
    have d4:¬(hh=0∨(hh≥3∧hh≤65535)):=by omega
    rw [Be d1 d3 d4];exact ⟨dg 6,rfl⟩
section
variable {P:Program}{G:aP}
theorem JD {t e:TypeId}{x i:Operand}{l:List (Nat × TV)}{inf:TypeInfo}{id off n:Nat}{k:IntKind}{z:Int}(ht:P.underlying t=some (.slice e))(hi:P.info? e=some inf)
  (hx:aA G l x=.row inf.size id off n) (hz:aA G l i=.val (.int k z)) (h0:0≤z) (h1:z.toNat<n):aS P G (.slice t x (some i) none none) l (.row inf.size id (off+z.toNat) (n-z.toNat)):=by
 refine ⟨?_⟩
 have h2:beq z.toNat n=false:=by
  cases hb:beq z.toNat n
  ·rfl
  ·have:=eq_of_beq_eq_true hb;omega
 have h3:ble z.toNat n=true:=ble_eq_true_of_le (by omega)
 have h4:ble n n=true:=ble_eq_true_of_le (le_refl _)
 have hlow:dS (some (aA G l i))=some z.toNat:=by simp [dS,ek,hz,h0]
 have hR:fw P t (aA G l x) (some (aA G l i)) none none=some (.row inf.size id (off+z.toNat) (n-z.toNat)):=by
  rw [hx]
  simp only [fw,ht,hi,hlow,nU]
  generalize z.toNat=w at h1 h2 h3 ⊢
  cases w with
  |zero=>simp [h4,beq_refl,ble_eq_true_of_le (zero_le n)]
  |succ w=>simp [h2,h3,h4,beq_refl]
 simp [aW,gB,hR]
end
theorem oD {G:aP}{x i:Operand}{l:List (Nat × TV)}{id off n:Nat}{k:IntKind}{z:Int}(hx:aA G l x=.row 1 id off n)(hz:aA G l i=.val (.int k z))(h0:0≤z)(h1:z<n):aS prog G (.indexAddr 22 x i) l (.ptr id (off+z.toNat)):=by
 obtain ⟨inf,i1,i2,_,_⟩:=cJ
 have h:=sT (P:=prog) (G:=G) (t:=22) (x:=x) (i:=i) (l:=l) (inf:=inf) (id:=id) (off:=off) (n:=n) underlying22 i1 (by rw [i2];exact hx) hz h0 h1
 rw [i2,mul_one,mul_one] at h
 exact h
theorem tC {G:aP}{x i:Operand}{l:List (Nat × TV)}{id off n:Nat}{k:IntKind}{z:Int}(hx:aA G l x=.row 1 id off n)(hz:aA G l i=.val (.int k z))(h0:0≤z)(h1:z.toNat<n):aS prog G (.slice 22 x (some i) none none) l (.row 1 id (off+z.toNat) (n-z.toNat)):=by
 obtain ⟨inf,i1,i2,_,_⟩:=cJ
 have h:=JD (P:=prog) (G:=G) (t:=22) (x:=x) (i:=i) (l:=l) (inf:=inf) (id:=id) (off:=off) (n:=n) underlying22 i1 (by rw [i2];exact hx) hz h0 h1
 rw [i2] at h
 exact h
theorem xU {l:List Int}(h:19≤l.length):∃(z0 z1 z2 z3 z4 z5 z6 z7 z8 z9 z10 z11 z12 z13 z14 z15 z16 z17 z18:Int) (l2:List Int),l=z0::z1::z2::z3::z4::z5::z6::z7::z8::z9::z10::z11::z12::z13::z14::z15::z16::z17::z18::l2:=by
 obtain ⟨z0,l0,e0,h0⟩:=jY h
 subst e0
 obtain ⟨z1,l1,e1,h1⟩:=jY h0
 subst e1
 obtain ⟨z2,l2,e2,h2⟩:=jY h1
 subst e2
 obtain ⟨z3,l3,e3,h3⟩:=jY h2
 subst e3
 obtain ⟨z4,l4,e4,h4⟩:=jY h3
 subst e4
 obtain ⟨z5,l5,e5,h5⟩:=jY h4
 subst e5
 obtain ⟨z6,l6,e6,h6⟩:=jY h5
 subst e6
 obtain ⟨z7,l7,e7,h7⟩:=jY h6
 subst e7
 obtain ⟨z8,l8,e8,h8⟩:=jY h7
 subst e8
 obtain ⟨z9,l9,e9,h9⟩:=jY h8
 subst e9
 obtain ⟨z10,l10,e10,h10⟩:=jY h9
 subst e10
 obtain ⟨z11,l11,e11,h11⟩:=jY h10
 subst e11
 obtain ⟨z12,l12,e12,h12⟩:=jY h11
 subst e12
 obtain ⟨z13,l13,e13,h13⟩:=jY h12
 subst e13
 obtain ⟨z14,l14,e14,h14⟩:=jY h13
 subst e14
 obtain ⟨z15,l15,e15,h15⟩:=jY h14
 subst e15
 obtain ⟨z16,l16,e16,h16⟩:=jY h15
 subst e16
 obtain ⟨z17,l17,e17,h17⟩:=jY h16
 subst e17
 obtain ⟨z18,l18,e18,h18⟩:=jY h17
 subst e18
 exact ⟨z0,z1,z2,z3,z4,z5,z6,z7,z8,z9,z10,z11,z12,z13,z14,z15,z16,z17,z18,l18,rfl⟩
theorem uO {l:List Int}{off n:Nat}(h:RwOk (l.map eM) off n):an (l.map eM) off n=bV ((l.drop off).take n):=nq (by have:=h.1;rwa [length_map] at this)
set_option maxHeartbeats 1000000 in
theorem RO {cs:List TV}{n:Nat}(hr:RwOk cs 19 n)(hn:2≤n):VCx prog ae 0 CD [.row 1 0 19 n] ⟨[.row cs],[]⟩ λx T'=>x=EJ (an cs 19 n)∧T'=⟨[.row cs],[]⟩:=by
 have hb:=hr.is
 refine VCx.leRow hr.ren (E4 hb) ?_
 obtain ⟨m,rfl⟩:∃m,n=m+2:=⟨n-2,by omega⟩
 have hr0:=hr
 obtain ⟨h1,h2,l,rfl,hz⟩:=hr
 rw [length_map] at h1 h2
 obtain ⟨z0,z1,z2,z3,z4,z5,z6,z7,z8,z9,z10,z11,z12,z13,z14,z15,z16,z17,z18,l2,rfl⟩:=xU (l:=l) (by omega)
 obtain ⟨y0,l3,e3,h3⟩:=jY (n:=m+1) (l:=l2) (by simp only [length_cons] at h1;omega)
 subst e3
 obtain ⟨y1,l4,e4,h4⟩:=jY (n:=m) (l:=l3) h3
 subst e4
 have hsb:=uO hr0
 have hsb2:an ((z0::z1::z2::z3::z4::z5::z6::z7::z8::z9::z10::z11::z12::z13::z14::z15::z16::z17::z18::y0::y1::l4).map eM) 19 (m+2)=bT y0::bT y1::bV (l4.take m):=hsb
 have hr2:RwOk ((z0::z1::z2::z3::z4::z5::z6::z7::z8::z9::z10::z11::z12::z13::z14::z15::z16::z17::z18::y0::y1::l4).map eM) 21 m:=hr0.sub (by simp only [length_map,length_cons];omega)
 have hsb3:an ((z0::z1::z2::z3::z4::z5::z6::z7::z8::z9::z10::z11::z12::z13::z14::z15::z16::z17::z18::y0::y1::l4).map eM) 21 m=bV (l4.take m):=uO hr2
 have i0:inZ y0:=hz y0 (by simp)
 have i1:inZ y1:=hz y1 (by simp)
 have hml:(bV (l4.take m)).length=m:=by rw [←hsb3];exact io _ _ _
 rw [hsb2]
 have hq:gM (.val (.int .u8 z0)) (.val (.int .u8 z1)) (.val (.int .u8 z2)) (.val (.int .u8 z3)) (.val (.int .u8 z4)) (.val (.int .u8 z5)) (.val (.int .u8 z6)) (.val (.int .u8 z7)) (.val (.int .u8 z8)) (.val (.int .u8 z9)) (.val (.int .u8 z10)) (.val (.int .u8 z11)) (.val (.int .u8 z12)) (.val (.int .u8 z13)) (.val (.int .u8 z14)) (.val (.int .u8 z15)) (.val (.int .u8 z16)) (.val (.int .u8 z17)) (.val (.int .u8 z18)) (TV.val (Value.int u8 y0)::TV.val (Value.int u8 y1)::l4.map eM)=(z0::z1::z2::z3::z4::z5::z6::z7::z8::z9::z10::z11::z12::z13::z14::z15::z16::z17::z18::y0::y1::l4).map eM:=rfl
 have hO:jU (bT y0::bT y1::bV (l4.take m))=(decide (m≤4075)&& !decide (y0=0)):=by
  unfold jU
  have e1:2≤(bT y0::bT y1::bV (l4.take m)).length:=by simp
  rw [decide_eq_true e1,Bool.true_and]
  show (decide ((bV (l4.take m)).length≤4075)&& !decide (y0=0))=_
  rw [hml]
 have bad:jU (bT y0::bT y1::bV (l4.take m))=false→TVle (.tup [.agg [.val (.int .i64 0),.val (.int .i64 0),.val (.slice none 0 0)],.val (.bool false)]) (EJ (bT y0::bT y1::bV (l4.take m))):=λh=>by
  rw [xN,h]
  exact .tup ⟨.agg ⟨.refl _,.refl _,.nil 1,trivial⟩,.refl _,trivial⟩
 by_cases hm0:m=0
 ·subst hm0
  refine aj ac aa (aZ λp hp=>by obtain rfl:=mem_singleton.1 hp;exact pn) ag (Pp (.val (.int .u8 z0)) (.val (.int .u8 z1)) (.val (.int .u8 z2)) (.val (.int .u8 z3)) (.val (.int .u8 z4)) (.val (.int .u8 z5)) (.val (.int .u8 z6)) (.val (.int .u8 z7)) (.val (.int .u8 z8)) (.val (.int .u8 z9)) (.val (.int .u8 z10)) (.val (.int .u8 z11)) (.val (.int .u8 z12)) (.val (.int .u8 z13)) (.val (.int .u8 z14)) (.val (.int .u8 z15)) (.val (.int .u8 z16)) (.val (.int .u8 z17)) (.val (.int .u8 z18)) y0 y1 (l4.map eM) _) ?_
  refine ⟨.nil,⟨rfl,rfl,trivial⟩,?_⟩
  rw [i0.wrap,i1.wrap]
  refine am (λc1=> ?_) (λc1=> ?_)
  rotate_left
  ·exact ⟨bad (by rw [hO,decide_eq_true (show y0=0 by have:=of_decide_eq_false c1;have:=i0.1;omega)];simp),rfl⟩
  refine bd (decide_eq_true (by have:=i0.2;omega)) (bd (decide_eq_true i1.1) (bd (decide_eq_true (by have:=i1.2;omega)) ⟨?_,rfl⟩))
  have hy0:¬y0=0:=by have:=of_decide_eq_true c1;omega
  rw [xN,show jU (bT y0::bT y1::bV (l4.take 0))=true by rw [hO,decide_eq_false hy0];rfl]
  exact .refl _
 refine aj ac aa (aZ λp hp=>by obtain rfl:=mem_singleton.1 hp;exact JB) ag (RH (.val (.int .u8 z0)) (.val (.int .u8 z1)) (.val (.int .u8 z2)) (.val (.int .u8 z3)) (.val (.int .u8 z4)) (.val (.int .u8 z5)) (.val (.int .u8 z6)) (.val (.int .u8 z7)) (.val (.int .u8 z8)) (.val (.int .u8 z9)) (.val (.int .u8 z10)) (.val (.int .u8 z11)) (.val (.int .u8 z12)) (.val (.int .u8 z13)) (.val (.int .u8 z14)) (.val (.int .u8 z15)) (.val (.int .u8 z16)) (.val (.int .u8 z17)) (.val (.int .u8 z18)) y0 y1 (l4.map eM) m _) ?_
 refine ⟨oD (z:=0) (n:=m+2) rfl rfl (by decide) (by omega),oD (z:=1) (n:=m+2) rfl rfl (by decide) (by omega),tC (z:=2) (n:=m+2) rfl rfl (by decide) (by show 2<m+2;omega),⟨rfl,hr2⟩,⟨rfl,rfl,trivial⟩,?_⟩
 rw [i0.wrap,i1.wrap,hq,hsb3]
 refine am (λc1=> ?_) (λc1=> ?_)
 rotate_left
 ·exact ⟨bad (by rw [hO,decide_eq_true (show y0=0 by have:=of_decide_eq_false c1;have:=i0.1;omega)];simp),rfl⟩
 refine bd (decide_eq_true (by have:=i0.2;omega)) (bd (decide_eq_true i1.1) (bd (decide_eq_true (by have:=i1.2;omega)) ?_))
 have hy0:¬y0=0:=by have:=of_decide_eq_true c1;omega
 by_cases h5:m≤4075
 ·refine bg (by rw [hml,decide_eq_true (show ((m:Nat):Int)≤4075 by omega)];rfl) ⟨?_,rfl⟩
  rw [xN,show jU (bT y0::bT y1::bV (l4.take m))=true by rw [hO,decide_eq_true h5,decide_eq_false hy0];rfl]
  exact .refl _
 ·refine bd (by rw [hml,decide_eq_false (show ¬((m:Nat):Int)≤4075 by omega)];rfl) ⟨bad (by rw [hO,decide_eq_false h5];rfl),rfl⟩
theorem We {z16 z17:Int}(h16:inZ z16)(h17:inZ z17):wrap u64 (↑(toNat (ofInt (IntKind.bits u64) (wrap u64 (wrap u64 (↑(toNat (ofInt (IntKind.bits u64) (wrap u64 ((0:Int)*(2:Int)^min (Int.toNat (8:Int)) (IntKind.bits u64))) ||| ofInt (IntKind.bits u64) (wrap u64 z16))):Int)*(2:Int)^min (Int.toNat (8:Int)) (IntKind.bits u64))) ||| ofInt (IntKind.bits u64) (wrap u64 z17))):Int)=(0*256+z16)*256+z17:=by
 have a:=h16.1;have b:=h16.2;have c:=h17.1;have d:=h17.2
 rw [cu (n:=0) (z:=z16) (by omega) (by omega) (by omega) (by omega),cu (n:=0*256+z16) (z:=z17) (by omega) (by omega) (by omega) (by omega)]
theorem Pt {cs:List TV}{n:Nat}(hr:RwOk cs 0 n)(hn:19≤n):VCx prog ae 0 Ho [.row 1 0 0 n,.val (.int .i64 16)] ⟨[.row cs],[]⟩ λx T'=>x=.tup [.val (.int .i64 (iM (an cs 0 n))),.val (.bool true)]∧T'=⟨[.row cs],[]⟩:=by
 refine VCx.leRow hr.ren (λ_ _=>rfl) ?_
 obtain ⟨m,rfl⟩:∃m,n=m+19:=⟨n-19,by omega⟩
 have hr0:=hr
 obtain ⟨h1,h2,l,rfl,hz⟩:=hr
 rw [length_map] at h1 h2
 obtain ⟨z0,z1,z2,z3,z4,z5,z6,z7,z8,z9,z10,z11,z12,z13,z14,z15,z16,z17,z18,l2,rfl⟩:=xU (l:=l) (by omega)
 have hsb:an ((z0::z1::z2::z3::z4::z5::z6::z7::z8::z9::z10::z11::z12::z13::z14::z15::z16::z17::z18::l2).map eM) 0 (m+19)=iN z0 z1 z2 z3 z4 z5 z6 z7 z8 z9 z10 z11 z12 z13 z14 z15 z16 z17 z18 (bV (l2.take m)):=uO hr0
 have i16:inZ z16:=hz z16 (by simp)
 have i17:inZ z17:=hz z17 (by simp)
 refine aj ac aa ai ag (RI z0 z1 z2 z3 z4 z5 z6 z7 z8 z9 z10 z11 z12 z13 z14 z15 z16 z17 z18 (l2.map eM) m _) ?_
 refine bg (by rw [dE (z:=((m+19:Nat):Int)-2) (by omega) (by omega),decide_eq_true (show (16:Int)≤((m+19:Nat):Int)-2 by omega)];rfl) ⟨tC (z:=16) (n:=m+19) rfl rfl (by decide) (by show 16<m+19;omega),?_,rfl⟩
 rw [We i16 i17,hsb]
 have a:=i16.1;have b:=i16.2;have c:=i17.1;have d:=i17.2
 rw [dE (z:=(0*256+z16)*256+z17) (by omega) (by omega)]
 exact .refl _
theorem Pu:∀ro ys T K,Me ro ys T K→VCx prog aM ro Ho ys T K:=by
 intro ro ys T K hw
 unfold Me at hw
 split at hw
 ·split at hw
  ·rename_i k off n _ cs ho
   obtain ⟨⟨hro,h,hn,rfl⟩,hk⟩:=hw
   exact VCx.atRow bc (le_of_ble_eq_true hro) ho h.ren (λf g=>rfl) (by simp [aw,TV.ren,aL]) (VCx.anyG (Pt h (le_of_ble_eq_true hn))) hk
  ·exact hw.elim
 ·exact hw.elim
def FzRw (cs:List TV)(T':VT)(x y:TV):Prop:=∃T2,FzLe T' x y T2∧T'.objs.length≤T2.objs.length∧T2.objs[0]?=some (.row cs)
theorem FzRw.le {cs:List TV}{T':VT}{x y:TV}(h:TVle x y)(h0:T'.objs[0]?=some (.row cs)):FzRw cs T' x y:=⟨T',.le h,le_refl _,h0⟩
theorem rC {cs:List TV}{z16 z17:Int}{T':VT}{id:Nat}(h:T'.objs[id+1]?=some (.row [.val (.int .u8 z16),.val (.int .u8 z17)]))(h0:T'.objs[0]?=some (.row cs)):FzRw cs T' (.row 1 (id+1) 0 2) (.vec 1 [bT z16,bT z17] .none):=
 ⟨_,.row (jC (es:= [bT z16,bT z17]) h (by intro e he;simp only [mem_cons,not_mem_nil,or_false] at he;rcases he with rfl | rfl<;>rfl)),E7 _ _,by simp only [VT.kill,getElem?_set];rw [if_neg (by omega)];exact h0⟩
section
variable {b:Bs}{cs:List TV}{pas:Int}
theorem lW {s:Int}{d:Bs}{dz:TV}{T':VT}(h:oA b=.inl (s,d))(hd:FzRw cs T' dz (.vec 1 d .none)):FzRw cs T' (.tup [.val (.int .i64 0),.val (.int .i64 0),.agg [.val (.int .i64 1),.val (.int .i64 s),dz]]) (tu b):=by
 obtain ⟨T2,h1,h2⟩:=hd
 unfold tu Jp
 rw [h]
 exact ⟨T2,.tup (.le (.le (.cons (.agg (.le (.le (.cons h1 .nil)))) .nil))),h2⟩
theorem Dg {n k:Int}{T':VT}(h:oA b=.inr (n,k))(h0:T'.objs[0]?=some (.row cs)):FzRw cs T' (.tup [.val (.int .i64 n),.val (.int .i64 k),.agg [.val (.int .i64 0),.val (.int .i64 0),.val (.slice none 0 0)]]) (tu b):=by
 unfold tu Jp
 rw [h]
 exact .le (.tup ⟨.refl _,.refl _,.agg ⟨.refl _,.refl _,.nil 1,trivial⟩,trivial⟩) h0
theorem lX {c s:Int}{d:Bs}{dz:TV}{T':VT}(h:fa b pas=.inl (c,s,d))(hd:FzRw cs T' dz (.vec 1 d .none)):FzRw cs T' (.tup [.agg [.val (.int .i64 0),.val (.int .i64 0),.val (.int .i64 0),.val (.int .u32 0),oB,oB,.val (.int .i64 0),oB,.val (.int .u32 0),.val (.int .i64 0),.val (.bool false),oB,.val (.int .i64 0),.val (.int .i64 0),oB],.agg [.val (.int .i64 c),.val (.int .i64 s),dz]]) (xO b pas):=by
 obtain ⟨T2,h1,h2⟩:=hd
 unfold xO M9
 rw [h]
 exact ⟨T2,.tup (.cons (.le UD) (.cons (.agg (.le (.le (.cons h1 .nil)))) .nil)),h2⟩
theorem oE {m:MsgS}{l:List TV}{T':VT}(h:fa b pas=.inr m)(hm:TVleL l m.cells)(h0:T'.objs[0]?=some (.row cs)):FzRw cs T' (.tup [.agg l,.agg [.val (.int .i64 0),.val (.int .i64 0),oB]]) (xO b pas):=by
 unfold xO M9
 rw [h]
 exact .le (.tup ⟨.agg hm,.agg ⟨.refl _,.refl _,.nil 1,trivial⟩,trivial⟩) h0
end
set_option maxHeartbeats 1000000 in
theorem RP {cs:List TV}{n:Nat}(hr:RwOk cs 0 n)(hn:19≤n):VCx prog aM 0 Av [.row 1 0 0 n] ⟨[.row cs],[]⟩ λx T'=>x=tu (an cs 0 n)∧T'=⟨[.row cs],[]⟩:=by
 have hb:=hr.is
 refine VCx.fzRow hr.ren (E1 hb) ?_
 obtain ⟨m,rfl⟩:∃m,n=m+19:=⟨n-19,by omega⟩
 have hr0:=hr
 obtain ⟨h1,h2,l,rfl,hz⟩:=hr
 rw [length_map] at h1 h2
 obtain ⟨z0,z1,z2,z3,z4,z5,z6,z7,z8,z9,z10,z11,z12,z13,z14,z15,z16,z17,z18,l2,rfl⟩:=xU (l:=l) (by omega)
 have hsb:an ((z0::z1::z2::z3::z4::z5::z6::z7::z8::z9::z10::z11::z12::z13::z14::z15::z16::z17::z18::l2).map eM) 0 (m+19)=iN z0 z1 z2 z3 z4 z5 z6 z7 z8 z9 z10 z11 z12 z13 z14 z15 z16 z17 z18 (bV (l2.take m)):=uO hr0
 have hq:xS z0 z1 z2 z3 z4 z5 z6 z7 z8 z9 z10 z11 z12 z13 z14 z15 z16 z17 z18 (l2.map eM)=(z0::z1::z2::z3::z4::z5::z6::z7::z8::z9::z10::z11::z12::z13::z14::z15::z16::z17::z18::l2).map eM:=rfl
 have i18:inZ z18:=hz z18 (by simp)
 rw [hsb] at hb
 have hl:¬(iN z0 z1 z2 z3 z4 z5 z6 z7 z8 z9 z10 z11 z12 z13 z14 z15 z16 z17 z18 (bV (l2.take m))).length<19:=by simp [iN]
 have hP:=rB hl
 have hN:=Ph (hb.drop 16)
 have hsz:m9 (iN z0 z1 z2 z3 z4 z5 z6 z7 z8 z9 z10 z11 z12 z13 z14 z15 z16 z17 z18 (bV (l2.take m)))= [bT z16,bT z17]:=rfl
 have hkd:C7 (iN z0 z1 z2 z3 z4 z5 z6 z7 z8 z9 z10 z11 z12 z13 z14 z15 z16 z17 z18 (bV (l2.take m)))= [bT z18]:=rfl
 have hk:pt (iN z0 z1 z2 z3 z4 z5 z6 z7 z8 z9 z10 z11 z12 z13 z14 z15 z16 z17 z18 (bV (l2.take m)))=z18:=rfl
 change 0≤iM (iN z0 z1 z2 z3 z4 z5 z6 z7 z8 z9 z10 z11 z12 z13 z14 z15 z16 z17 z18 (bV (l2.take m)))∧iM (iN z0 z1 z2 z3 z4 z5 z6 z7 z8 z9 z10 z11 z12 z13 z14 z15 z16 z17 z18 (bV (l2.take m)))<65536 at hN
 rw [hsz,hkd,hk] at hP
 have hwk:wrap i64 z18=z18:=i18.wrap
 refine aj ac aa (aZ λp hp=>by obtain rfl:=mem_singleton.1 hp;exact Pu) ag (RJ z0 z1 z2 z3 z4 z5 z6 z7 z8 z9 z10 z11 z12 z13 z14 z15 z16 z17 z18 (zh z18) (Jv z18) (l2.map eM) m _) ?_
 rw [hq,hsb,hwk]
 generalize iM (iN z0 z1 z2 z3 z4 z5 z6 z7 z8 z9 z10 z11 z12 z13 z14 z15 z16 z17 z18 (bV (l2.take m)))=n at hP hN
 refine ⟨⟨rfl,hr0,rfl,rfl⟩,oD (z:=18) (n:=m+19) rfl rfl (by decide) (by omega),⟨rfl,trivial⟩,?_⟩
 change _root_.cond _ _ _
 have hall:=Aw [z0,z1,z2,z3,z4,z5,z6,z7,z8,z9,z10,z11,z12,z13,z14,z15]
 refine am (λc=> ?_) (λc=> ?_)
 ·have c2:(!jf (iN z0 z1 z2 z3 z4 z5 z6 z7 z8 z9 z10 z11 z12 z13 z14 z15 z16 z17 z18 (bV (l2.take m))))=true:=Eq.trans (congrArg Bool.not hall).symm c
  have c3:jf (iN z0 z1 z2 z3 z4 z5 z6 z7 z8 z9 z10 z11 z12 z13 z14 z15 z16 z17 z18 (bV (l2.take m)))=false:=by simpa using c2
  exact lW (by rw [hP,c3];rfl) (.le (.nil 1) rfl)
 have c2:(!jf (iN z0 z1 z2 z3 z4 z5 z6 z7 z8 z9 z10 z11 z12 z13 z14 z15 z16 z17 z18 (bV (l2.take m))))=false:=Eq.trans (congrArg Bool.not hall).symm c
 have c3:jf (iN z0 z1 z2 z3 z4 z5 z6 z7 z8 z9 z10 z11 z12 z13 z14 z15 z16 z17 z18 (bV (l2.take m)))=true:=by simpa using c2
 rw [c3,cond_true] at hP
 refine am (λd1=> ?_) (λd1=> ?_)
 ·exact lW (by rw [hP,if_pos (.inl (of_decide_eq_true d1))]) (rC (id:=1) rfl rfl)
 replace d1:=of_decide_eq_false d1
 refine am (λd2=> ?_) (λd2=> ?_)
 ·exact lW (by rw [hP,if_pos (.inr (of_decide_eq_true d2))]) (rC (id:=1) rfl rfl)
 replace d2:=of_decide_eq_false d2
 rw [if_neg (show ¬(n<19∨n>4096) by omega)] at hP
 refine am (λd3=> ?_) (λd3=> ?_)
 ·exact ⟨oD (z:=18) (n:=m+19) rfl rfl (by decide) (by omega),lW (by rw [hP,if_pos (.inl (of_decide_eq_true d3))];rfl) (.le (.vec 1 _ _) rfl)⟩
 replace d3:=of_decide_eq_false d3
 refine am (λd4=> ?_) (λd4=> ?_)
 ·exact ⟨oD (z:=18) (n:=m+19) rfl rfl (by decide) (by omega),lW (by rw [hP,if_pos (.inr (of_decide_eq_true d4))];rfl) (.le (.vec 1 _ _) rfl)⟩
 replace d4:=of_decide_eq_false d4
 rw [if_neg (show ¬(z18<1∨z18>4) by omega)] at hP
 refine ⟨Hk (by omega) (by omega),?_⟩
 refine am (λd5=> ?_) (λd5=> ?_)
 ·exact lW (by rw [hP,if_pos (.inl (of_decide_eq_true d5))]) (rC (id:=1) rfl rfl)
 replace d5:=of_decide_eq_false d5
 refine am (λd6=> ?_) (λd6=> ?_)
 ·replace d6:=dI d6
  refine am (λd7=> ?_) (λd7=> ?_)
  ·replace d7:=of_decide_eq_true d7
   exact lW (by rw [hP,if_pos (.inr ⟨d6,by omega⟩)]) (rC (id:=1) rfl rfl)
  ·replace d7:=of_decide_eq_false d7
   exact Dg (by rw [hP,if_neg (by omega)]) rfl
 ·replace d6:=dl d6
  exact Dg (by rw [hP,if_neg (by omega)]) rfl
theorem JE:∀ro ys T K,De ro ys T K→VCx prog aM ro Av ys T K:=by
 intro ro ys T K hw
 unfold De at hw
 split at hw
 ·split at hw
  ·rename_i k off n _ cs ho
   obtain ⟨⟨hro,h,hn,rfl⟩,hk⟩:=hw
   refine VCx.atRow bc (le_of_ble_eq_true hro) ho h.ren (E1 h.is) (by simp [aw,TV.ren,aL]) (RP h (le_of_ble_eq_true hn)) ?_
   cases hh:dm (an cs 0 n)<;>rw [hh] at hk
   ·rw [Jr hh];exact hk
   ·rw [Jq hh];exact hk
  ·exact hw.elim
 ·exact hw.elim
theorem RQ:∀ro ys T K,Jy ro ys T K→VCx prog aM ro EI ys T K:=by
 intro ro ys T K hw
 unfold Jy at hw
 split at hw
 ·split at hw
  ·rename_i k off n pas _ cs ho
   obtain ⟨⟨hro,h⟩,hk⟩:=hw
   refine VCx.atRow bc (le_of_ble_eq_true hro) ho h.ren (E3 pas h.is) (by simp [aw,TV.ren,aL]) (VCx.anyG (RN h pas)) ?_
   cases hh:iG (an cs off n) pas<;>rw [hh] at hk
   ·rw [Ju h.is hh];exact hk
   ·rw [Jt h.is hh];exact hk
  ·exact hw.elim
 ·exact hw.elim
theorem RR:∀ro ys T K,Jz ro ys T K→VCx prog aM ro E0 ys T K:=by
 intro ro ys T K hw
 unfold Jz at hw
 split at hw
 ·split at hw
  ·rename_i k off n _ cs ho
   obtain ⟨⟨hro,h⟩,hk⟩:=hw
   refine VCx.atRow bc (le_of_ble_eq_true hro) ho h.ren (EZ h.is) (by simp [aw,TV.ren,aL]) (VCx.anyG (RM h)) ?_
   cases hh:jg (an cs off n)<;>rw [hh] at hk
   ·rw [RB hh];exact hk
   ·rw [RA hh];exact hk
  ·exact hw.elim
 ·exact hw.elim
theorem RS:∀ro ys T K,JA ro ys T K→VCx prog aM ro CD ys T K:=by
 intro ro ys T K hw
 unfold JA at hw
 split at hw
 ·split at hw
  ·rename_i k off n _ cs ho
   obtain ⟨⟨hro,h,rfl,hn⟩,hk⟩:=hw
   refine VCx.atRow bc (le_of_ble_eq_true hro) ho h.ren (E4 h.is) (by simp [aw,TV.ren,aL]) (VCx.anyG (RO h (le_of_ble_eq_true hn))) ?_
   rw [xN]
   cases hh:jU (an cs 19 n)<;>rw [hh] at hk<;>exact hk
  ·exact hw.elim
 ·exact hw.elim
theorem rD {b:Bs}(hl:¬b.length<19)(h:dm b=true):zh (eL b)≤bM b∧19≤bM b∧bM b≤4096:=by
 have hP:=rB hl
 unfold dm at h
 unfold eL bM
 rw [hP] at h ⊢
 cases h1:jf b<;>rw [h1] at h<;>simp only [cond_true,cond_false] at h ⊢
 ·cases h
 split at h
 ·rename_i p hp
  split at hp
  ·cases hp
  rename_i c1
  split at hp
  ·cases hp
  rename_i c2
  split at hp
  ·cases hp
  rename_i c3
  injection hp with hp
  rw [←hp]
  simp only
  omega
 ·cases h
theorem E9:bu prog aM (aT [(Av,De),(EI,Jy),(E0,Jz),(CD,JA)]):=aZ λp hp=>by
 rcases mem_cons.1 hp with rfl | hp;exact JE
 rcases mem_cons.1 hp with rfl | hp;exact RQ
 rcases mem_cons.1 hp with rfl | hp;exact RR
 obtain rfl:=mem_singleton.1 hp;exact RS
set_option maxHeartbeats 1000000 in
theorem RT {cs:List TV}{n:Nat}(hr:RwOk cs 0 n)(hn:19≤n)(pas:Int):VCx prog aM 0 E6 [.row 1 0 0 n,.val (.int .i64 pas)] ⟨[.row cs],[]⟩ λx T'=>x=xO (an cs 0 n) pas∧T'=⟨[.row cs],[]⟩:=by
 have hb:=hr.is
 refine VCx.fzRow hr.ren (E5 pas hb) ?_
 obtain ⟨m,rfl⟩:∃m,n=m+19:=⟨n-19,by omega⟩
 have hr0:=hr
 obtain ⟨h1,h2,l,rfl,hz⟩:=hr
 rw [length_map] at h1 h2
 obtain ⟨z0,z1,z2,z3,z4,z5,z6,z7,z8,z9,z10,z11,z12,z13,z14,z15,z16,z17,z18,l2,rfl⟩:=xU (l:=l) (by omega)
 have hsb:an ((z0::z1::z2::z3::z4::z5::z6::z7::z8::z9::z10::z11::z12::z13::z14::z15::z16::z17::z18::l2).map eM) 0 (m+19)=iN z0 z1 z2 z3 z4 z5 z6 z7 z8 z9 z10 z11 z12 z13 z14 z15 z16 z17 z18 (bV (l2.take m)):=uO hr0
 have hrw:RwOk ((z0::z1::z2::z3::z4::z5::z6::z7::z8::z9::z10::z11::z12::z13::z14::z15::z16::z17::z18::l2).map eM) 19 m:=hr0.sub (by simp only [length_map,length_cons] at h1 ⊢;omega)
 have hsw:an ((z0::z1::z2::z3::z4::z5::z6::z7::z8::z9::z10::z11::z12::z13::z14::z15::z16::z17::z18::l2).map eM) 19 m=bV (l2.take m):=uO hrw
 have hwl:(bV (l2.take m)).length=m:=by rw [←hsw];exact io _ _ _
 have hq:gM (.val (.int .u8 z0)) (.val (.int .u8 z1)) (.val (.int .u8 z2)) (.val (.int .u8 z3)) (.val (.int .u8 z4)) (.val (.int .u8 z5)) (.val (.int .u8 z6)) (.val (.int .u8 z7)) (.val (.int .u8 z8)) (.val (.int .u8 z9)) (.val (.int .u8 z10)) (.val (.int .u8 z11)) (.val (.int .u8 z12)) (.val (.int .u8 z13)) (.val (.int .u8 z14)) (.val (.int .u8 z15)) (.val (.int .u8 z16)) (.val (.int .u8 z17)) (.val (.int .u8 z18)) (l2.map eM)=(z0::z1::z2::z3::z4::z5::z6::z7::z8::z9::z10::z11::z12::z13::z14::z15::z16::z17::z18::l2).map eM:=rfl
 rw [hsb] at hb ⊢
 have hlen:¬(iN z0 z1 z2 z3 z4 z5 z6 z7 z8 z9 z10 z11 z12 z13 z14 z15 z16 z17 z18 (bV (l2.take m))).length<19:=by simp [iN]
 have hln:(iN z0 z1 z2 z3 z4 z5 z6 z7 z8 z9 z10 z11 z12 z13 z14 z15 z16 z17 z18 (bV (l2.take m))).length=m+19:=by simp only [iN,length_cons,hwl]
 have hsz:m9 (iN z0 z1 z2 z3 z4 z5 z6 z7 z8 z9 z10 z11 z12 z13 z14 z15 z16 z17 z18 (bV (l2.take m)))= [bT z16,bT z17]:=rfl
 have hdr:(iN z0 z1 z2 z3 z4 z5 z6 z7 z8 z9 z10 z11 z12 z13 z14 z15 z16 z17 z18 (bV (l2.take m))).drop 19=bV (l2.take m):=rfl
 have hPl:=λc=>Md (b:=iN z0 z1 z2 z3 z4 z5 z6 z7 z8 z9 z10 z11 z12 z13 z14 z15 z16 z17 z18 (bV (l2.take m))) (pas:=pas) c hlen
 have hbad:=λc=>Pi (b:=iN z0 z1 z2 z3 z4 z5 z6 z7 z8 z9 z10 z11 z12 z13 z14 z15 z16 z17 z18 (bV (l2.take m))) (pas:=pas) c
 have hle:=λc=>rD (b:=iN z0 z1 z2 z3 z4 z5 z6 z7 z8 z9 z10 z11 z12 z13 z14 z15 z16 z17 z18 (bV (l2.take m))) hlen c
 rw [hsz,hdr,hln] at hPl
 by_cases hm0:m=0
 ·subst hm0
  refine aj ac aa E9 ag (Pq (.val (.int .u8 z0)) (.val (.int .u8 z1)) (.val (.int .u8 z2)) (.val (.int .u8 z3)) (.val (.int .u8 z4)) (.val (.int .u8 z5)) (.val (.int .u8 z6)) (.val (.int .u8 z7)) (.val (.int .u8 z8)) (.val (.int .u8 z9)) (.val (.int .u8 z10)) (.val (.int .u8 z11)) (.val (.int .u8 z12)) (.val (.int .u8 z13)) (.val (.int .u8 z14)) (.val (.int .u8 z15)) (.val (.int .u8 z16)) (.val (.int .u8 z17)) (.val (.int .u8 z18)) (l2.map eM) pas _) ?_
  refine ⟨⟨rfl,hr0,rfl,rfl⟩,?_⟩
  rw [hq,hsb]
  refine am (λc1=> ?_) (λc1=> ?_)
  rotate_left
  ·exact lX (hbad c1) (.le (.refl _) rfl)
  have hP:=hPl c1
  obtain ⟨hk,_,_⟩:=hle c1
  refine am (λc2=> ?_) (λc2=> ?_)
  ·exact lX (hP.trans (if_pos (fe c2))) (rC (id:=4) rfl rfl)
  have hN:=fg c2
  rw [if_neg (λc=>c hN)] at hP
  rw [hN] at hk
  refine am (λc3=> ?_) (λc3=> ?_)
  ·rw [dI c3] at hk;exact absurd hk (by decide)
  rw [if_neg (dl c3)] at hP
  refine am (λc5=> ?_) (λc5=> ?_)
  ·rw [dI c5] at hk;exact absurd hk (by decide)
  rw [if_neg (dl c5)] at hP
  refine am (λc6=> ?_) (λc6=> ?_)
  ·rw [dI c6] at hk;exact absurd hk (by decide)
  rw [if_neg (dl c6)] at hP
  exact oE hP ⟨.refl _,.refl _,.refl _,.refl _,.nil 2,.nil 2,.refl _,.nil 1,.refl _,.refl _,.refl _,.nil 2,.refl _,.refl _,.nil 1,trivial⟩ rfl
 refine aj ac aa E9 ag (RK (.val (.int .u8 z0)) (.val (.int .u8 z1)) (.val (.int .u8 z2)) (.val (.int .u8 z3)) (.val (.int .u8 z4)) (.val (.int .u8 z5)) (.val (.int .u8 z6)) (.val (.int .u8 z7)) (.val (.int .u8 z8)) (.val (.int .u8 z9)) (.val (.int .u8 z10)) (.val (.int .u8 z11)) (.val (.int .u8 z12)) (.val (.int .u8 z13)) (.val (.int .u8 z14)) (.val (.int .u8 z15)) (.val (.int .u8 z16)) (.val (.int .u8 z17)) (.val (.int .u8 z18)) (l2.map eM) m pas _) ?_
 refine ⟨⟨rfl,hr0,rfl,rfl⟩,?_⟩
 rw [hq,hsb,hsw]
 refine am (λc1=> ?_) (λc1=> ?_)
 rotate_left
 ·exact lX (hbad c1) (.le (.refl _) rfl)
 have hP:=hPl c1
 obtain ⟨hkl,_,_⟩:=hle c1
 refine am (λc2=> ?_) (λc2=> ?_)
 ·exact lX (hP.trans (if_pos (fe c2))) (rC (id:=4) rfl rfl)
 have hN:=fg c2
 rw [if_neg (λc=>c hN)] at hP
 refine ⟨tC (z:=19) (n:=m+19) rfl rfl (by decide) (by show 19<m+19;omega),?_⟩
 refine am (λc3=> ?_) (λc3=> ?_)
 ·rw [if_pos (dI c3)] at hP
  refine ⟨⟨rfl,hrw⟩,am (λc4=> ?_) (λc4=> ?_)⟩
  ·exact oE (hP.trans (by rw [show iG (bV (l2.take m)) pas=true from c4];rfl)) ⟨.refl _,.refl _,.refl _,.refl _,.refl _,.nil 2,.refl _,.nil 1,.refl _,.refl _,.refl _,.nil 2,.refl _,.refl _,.nil 1,trivial⟩ rfl
  ·exact lX (hP.trans (by rw [show iG (bV (l2.take m)) pas=false from c4];rfl)) (.le (.refl _) rfl)
 rw [if_neg (dl c3)] at hP
 refine am (λc5=> ?_) (λc5=> ?_)
 ·rw [if_pos (dI c5)] at hP
  refine ⟨⟨rfl,hrw⟩,am (λc4=> ?_) (λc4=> ?_)⟩
  ·exact oE (hP.trans (by rw [show jg (bV (l2.take m))=true from c4];rfl)) ⟨.refl _,.refl _,.refl _,.refl _,.nil 2,.refl _,.refl _,.refl _,.refl _,.refl _,.refl _,.refl _,.refl _,.refl _,.nil 1,trivial⟩ rfl
  ·exact lX (hP.trans (by rw [show jg (bV (l2.take m))=false from c4];rfl)) (.le (.refl _) rfl)
 rw [if_neg (dl c5)] at hP
 refine am (λc6=> ?_) (λc6=> ?_)
 ·rw [if_pos (dI c6)] at hP
  rw [dI c6,hN] at hkl
  have hm2:2≤m:=by
   have:zh 3=21:=by decide
   rw [this] at hkl;omega
  refine ⟨⟨rfl,hrw,rfl,ble_eq_true_of_le hm2⟩,am (λc4=> ?_) (λc4=> ?_)⟩
  ·exact oE (hP.trans (by rw [show jU (bV (l2.take m))=true from c4];rfl)) ⟨.refl _,.refl _,.refl _,.refl _,.nil 2,.nil 2,.refl _,.nil 1,.refl _,.refl _,.refl _,.nil 2,.refl _,.refl _,.refl _,trivial⟩ rfl
  ·exact lX (hP.trans (by rw [show jU (bV (l2.take m))=false from c4];rfl)) (rC (id:=4) rfl rfl)
 rw [if_neg (dl c6)] at hP
 exact oE hP ⟨.refl _,.refl _,.refl _,.refl _,.nil 2,.nil 2,.refl _,.nil 1,.refl _,.refl _,.refl _,.nil 2,.refl _,.refl _,.nil 1,trivial⟩ rfl
section
variable {P:Program}{G:aP}
theorem Hr {ro:Nat}{T:VT}{t e tn:TypeId}{s x:Operand}{l:List (Nat × TV)}{inf:TypeInfo}{z:Value}{kn kq:IntKind}{m:Int}(ht:P.underlying t=some (.slice e))(htn:P.underlying tn=some (.int kn))(hi:P.info? e=some inf)(hz:inf.zero=some z)(hzs:z.cells.size=inf.size)(h0s:0<inf.size)
  (hz1:z.cells.toList.all oneCell'=true) (hs:aA G l s=.val (.slice none 0 0)) (hx:aA G l x=.val (.int kq m)) (h0:0<m) (hb:m.toNat*(inf.bytes+1)≤140737488355328):
  bp P G ro T (.call ⟨.builtin .append,#[s,x],#[t,tn]⟩) l (.row inf.size T.objs.length 0 m.toNat) (T.newRow ((zeroCells z.cells m.toNat).toList.map .val)):=by
 refine .mk ?_
 have h1:aW P (.call ⟨.builtin .append,#[s,x],#[t,tn]⟩) (aA G l)=none:=by simp [aW,cN]
 have h2:aY P T (.call ⟨.builtin .append,#[s,x],#[t,tn]⟩) (aA G l)=none:=by simp [aY,cM,gv]
 have hsl:fD (P.underlying tn)=false:=by rw [htn];rfl
 have h3:wR P T t tn (.val (.slice none 0 0)) (.val (.int kq m))=some (.row inf.size T.objs.length 0 m.toNat,T.newRow ((zeroCells z.cells m.toNat).toList.map .val)):=by
  unfold wR
  simp only [ht,htn,hi,hz,hzs,decide_eq_true h0,decide_eq_true h0s,decide_true,hz1,ble_eq_true_of_le hb,Bool.and_self,cond_true]
 simp only [dZ,h1,h2,gR,hs,hx,hsl,h3,cond_false]
theorem nr {ro:Nat}{T:VT}{t e tx:TypeId}{s x:Operand}{l:List (Nat × TV)}{inf:TypeInfo}{z:Value}{q0:List TV}{qs:List (List TV)}{id n:Nat}{cs:List TV}(ht:P.underlying t=some (.slice e))(hi:P.info? e=some inf)(hz:inf.zero=some z)(hzs:z.cells.size=inf.size)(hz1:z.cells.toList.all oneCell'=true)
  (hsl:fD (P.underlying tx)=true) (hs:aA G l s=.row inf.size id 0 n) (ho:T.objs[id]?=some (.row cs)) (hro:ro≤id) (hn:n*inf.size≤cs.length) (hr:bL T inf.size (aA G l x)=some (q0::qs)) (hb:(n+(q0::qs).length)*(inf.bytes+1)≤140737488355328):
  bp P G ro T (.call ⟨.builtin .append,#[s,x],#[t,tx]⟩) l (.row inf.size T.objs.length 0 (n+(q0::qs).length)) ((T.kill id).newRow (cs.take (n*inf.size)++(q0::qs).flatten)):=by
 refine .mk ?_
 have h1:aW P (.call ⟨.builtin .append,#[s,x],#[t,tx]⟩) (aA G l)=none:=by simp [aW,cN]
 have h2:aY P T (.call ⟨.builtin .append,#[s,x],#[t,tx]⟩) (aA G l)=none:=by simp [aY,cM,gv]
 have h4:jx P T t tx (.row inf.size id 0 n) (aA G l x)=none:=by simp [jx,ht]
 have h5:oY P ro T t tx (.row inf.size id 0 n) (aA G l x)=none:=rfl
 have h3:ju P ro T t tx (.row inf.size id 0 n) (aA G l x)=some (.row inf.size T.objs.length 0 (n+(q0::qs).length),(T.kill id).newRow (cs.take (n*inf.size)++(q0::qs).flatten)):=by
  unfold ju
  simp only [ht,hi,hz,hr,hzs,decide_true,hz1,hsl,Bool.and_self,cond_true,beq_refl,ho,ble_eq_true_of_le hro,ble_eq_true_of_le hn,ble_eq_true_of_le hb]
 simp only [dZ,h1,h2,gR,hs,hsl,h4,h5,h3,cond_true]
end
def mW:List Nat→Nat→Bool
 |[],_=>false
 |a::l,i=>bif beq a i then true else mW l i
def jh:List Nat→Bool
 |[]=>true
 |a::l=>bif mW l a then false else jh l
def fN:List Nat→Nat→Option Nat
 |[],_=>none
 |a::l,i=>bif beq a i then some 0 else (match fN l i with
  |some j=>some (j+1)
  |none=>none)
def ln {α:Type}:List α→Nat→Option α
 |[],_=>none
 |a::l,i=>match i with
  | 0=>some a
  |j+1=>ln l j
def pO (n m:Nat)(is:List Nat)(j:Nat):Option Nat:=bif ble (j+1) m then ln is j else some (n+(j-m))
def VO.parts:VO→List TV
 | .cells cs=>cs
 | .row cs=>cs
 | .map _ _ es _=>es.map λe=>e.2.1
 | .iter m _ _ _=> [m]
 | .loop _ _ σ _ _ _=>σ
 |_=> []
def r7 {α:Type}:List α→List α→List α
 |[],m=>m
 |a::l,m=>a::r7 l m
def Mf {α:Type}:List (List α)→List α→List α
 |[],m=>m
 |a::l,m=>r7 a (Mf l m)
def b8:Nat→VT→List TV→List Nat→List Nat→List Nat × List Nat
 | 0,_,_,is,ks=>(is,ks)
 |_+1,_,[],is,ks=>(is,ks)
 |n+1,T,x::l,is,ks=>match x with
  | .val _=>b8 n T l is ks
  | .dead=>b8 n T l is ks
  | .ptr id _=>bif mW is id then b8 n T l is ks else (match ln T.objs id with
   |some o=>bif o.live then b8 n T (r7 o.parts l) (id::is) ks else b8 n T l is ks
   |none=>b8 n T l is ks)
  | .sl id _ _ _=>bif mW is id then b8 n T l is ks else (match ln T.objs id with
   |some o=>bif o.live then b8 n T (r7 o.parts l) (id::is) ks else b8 n T l is ks
   |none=>b8 n T l is ks)
  | .row _ id _ _=>bif mW is id then b8 n T l is ks else (match ln T.objs id with
   |some o=>bif o.live then b8 n T (r7 o.parts l) (id::is) ks else b8 n T l is ks
   |none=>b8 n T l is ks)
  | .map id=>bif mW is id then b8 n T l is ks else (match ln T.objs id with
   |some o=>bif o.live then b8 n T (r7 o.parts l) (id::is) ks else b8 n T l is ks
   |none=>b8 n T l is ks)
  | .yld id=>bif mW is id then b8 n T l is ks else (match ln T.objs id with
   |some o=>bif o.live then b8 n T (r7 o.parts l) (id::is) ks else b8 n T l is ks
   |none=>b8 n T l is ks)
  | .vec _ es tok=>b8 n T (match tok with
   | .past id _=>.row 0 id 0 0::Mf es l
   |_=>Mf es l) is (match tok with
   | .tail k _=>bif mW ks k then ks else k::ks
   |_=>ks)
  | .elt cs=>b8 n T (r7 cs l) is ks
  | .agg cs=>b8 n T (r7 cs l) is ks
  | .tup cs=>b8 n T (r7 cs l) is ks
  | .fn _ a b=>b8 n T (r7 a (r7 b l)) is ks
  | .ifc _ v=>b8 n T (v::l) is ks
def rE {α:Type}:List α→List α→List α
 |[],m=>m
 |a::l,m=>rE l (a::m)
def Bn:Nat:=1000000
def qy (T:VT)(ro:Nat):List Nat→Bool
 |[]=>true
 |i::l=>ble ro i&&(match ln T.objs i with
  |some o=>o.live
  |none=>false)&&qy T ro l
def nt (n:Nat):List Nat→Bool
 |[]=>true
 |i::l=>ble (i+1) n&&nt n l
def kL:Nat→Nat→List Nat→Bool
 |_,0,_=>true
 |i,n+1,a::l=>beq a i&&kL (i+1) n l
 |_,_+1,[]=>false
def tD:Nat→List Nat
 | 0=> []
 |n+1=>n::tD n
def VT.giveF (T:VT)(is ks:List Nat):VT:=⟨is.map λi=>((ln T.objs i).getD .gone).ren (fN is) (fN ks),ks.map λk=>(ln T.tails k).getD (0,0,false)⟩
def VT.backF (T:VT)(is ks:List Nat)(T':VT):VT:=
 ⟨bJ T.objs is (T'.objs.map (VO.ren (pO T.objs.length is.length is) (pO T.tails.length ks.length ks))),bJ T.tails ks T'.tails⟩
def JF (ro:Nat)(ys:List TV)(T:VT):Option (List Nat × List Nat × List TV × VT):=
 match b8 Bn T ys [] [] with
 | (is0,ks0)=>match rE is0 [],rE ks0 [] with
  |is,ks=>bif jh is&&jh ks&&qy T ro is&&nt T.tails.length ks then some (is,ks,aw (fN is) (fN ks) ys,T.giveF is ks) else none
def wi (N M:Nat)(y:TV)(T:VT):Option (TV × VT):=
 match b8 Bn T (y::(T.objs.take N).flatMap VO.parts) (tD N) (tD M) with
 | (is0,ks0)=>match rE is0 [],rE ks0 [] with
  |is,ks=>bif jh is&&jh ks&&nt T.objs.length is&&nt T.tails.length ks&&kL 0 N is&&kL 0 M ks then some (y.ren (fN is) (fN ks),T.giveF is ks) else none
def oF:List Value→List Value→Bool
 |[],[]=>true
 |a::l,b::m=>wT a b&&oF l m
 |_,_=>false
def xV:Value→Value→Bool
 | .agg a,.agg b=>oF a.toList b.toList
 | .tuple a,.tuple b=>oF a.toList b.toList
 |a,b=>wT a b
def xW:Tok→Tok→Bool
 |_,.none=>true
 | .full,.full=>true
 | .live,.live=>true
 | .tail k e,.tail k' e'=>beq k k' &&beq e e'
 | .past k e,.past k' e'=>beq k k' &&beq e e'
 |_,_=>false
mutual
def g9:TV→TV→Bool
 |_,.dead=>true
 | .val a,.val b=>xV a b
 | .ptr i o,.ptr j p=>beq i j&&beq o p
 | .vec s es t,.vec s' es' t'=>beq s s' &&xW t t' &&qb es es'
 | .elt cs,.elt ds=>gq cs ds
 | .sl a b c d,.sl a' b' c' d'=>beq a a' &&beq b b' &&beq c c' &&beq d d'
 | .row a b c d,.row a' b' c' d'=>beq a a' &&beq b b' &&beq c c' &&beq d d'
 | .agg cs,.agg ds=>gq cs ds
 | .tup cs,.tup ds=>gq cs ds
 | .fn f a b,.fn g c d=>F6 f g&&gq a c&&gq b d
 | .ifc t x,.ifc u y=>beq t u&&g9 x y
 | .map i,.map j=>beq i j
 |_,_=>false
def gq:List TV→List TV→Bool
 |[],[]=>true
 |x::l,y::m=>g9 x y&&gq l m
 |_,_=>false
end
def Hs:CK→CK→Bool
 | .int a,.int b=>decide (a=b)
 | .bool,.bool=>true
 | .str,.str=>true
 |_,_=>false
def qz:List CK→List CK→Bool
 |[],[]=>true
 |a::l,b::m=>Hs a b&&qz l m
 |_,_=>false
def Ht (a b:KS):Bool:=(bif a.agg then b.agg else !b.agg)&&qz a.ks b.ks
def zi:List (Value × TV × Nat)→List (Value × TV × Nat)→Bool
 |[],[]=>true
 |a::l,b::m=>xV a.1 b.1&&g9 a.2.1 b.2.1&&beq a.2.2 b.2.2&&zi l m
 |_,_=>false
def qA:List Nat→List Nat→Bool
 |[],[]=>true
 |a::l,b::m=>beq a b&&qA l m
 |_,_=>false
def wj:VO→VO→Bool
 | .cells a,.cells b=>gq a b
 | .row a,.row b=>gq a b
 | .map sh _ es ck,.map sh' _ es' ck'=>Ht sh sh' &&zi es es' &&beq ck ck'
 | .iter m a b c,.iter m' a' b' c'=>g9 m m' &&beq a a' &&qA b b' &&beq c c'
 | .defd,.defd=>true
 | .gone,.gone=>true
 |_,_=>false
def uP:List VO→List VO→Bool
 |[],[]=>true
 |a::l,b::m=>wj a b&&uP l m
 |_,_=>false
def qB:List (Nat × Nat × Bool)→List (Nat × Nat × Bool)→Bool
 |[],[]=>true
 |a::l,b::m=>beq a.1 b.1&&beq a.2.1 b.2.1&&(bif a.2.2 then b.2.2 else !b.2.2)&&qB l m
 |_,_=>false
def pP (T S:VT):Bool:=uP T.objs S.objs&&qB T.tails S.tails
def VO.canon:VO→VO
 | .map sh _ es ck=>.map sh (λk=>dj k es) es ck
 |o=>o
def VT.canon (T:VT):VT:={T with objs:=T.objs.map VO.canon}
structure cK where
 xs:List TV
 T:VT
 y:TV
 T':VT
def Dh (e:cK)(y:TV)(T:VT):Bool:=match wi e.T.objs.length e.T.tails.length y T with
 |some (y1,T1)=>g9 y1 e.y&&pP T1 e.T'
 |none=>false
def nJ (xs:List TV)(S:VT):List cK→Option cK
 |[]=>none
 |e::l=>bif gq xs e.xs&&pP S e.T&&ble S.objs.length e.T'.objs.length&&ble S.tails.length e.T'.tails.length then some e else nJ xs S l
theorem Di:∀(l:List Nat) (i:Nat),mW l i=true ↔ i∈l
 |[],i=>by simp [mW]
 |a::l,i=>by
  simp only [mW,mem_cons]
  cases h:beq a i with
  |true=>simp [eq_of_beq_eq_true h]
  |false=>
   have:i≠a:=λe=>by subst e;rw [beq_refl] at h;cases h
   simp [Di l i,this]
theorem kM:∀{l:List Nat},jh l=true→l.Nodup
 |[],_=>nodup_nil
 |a::l,h=>by
  simp only [jh] at h
  cases ha:mW l a with
  |true=>rw [ha] at h;cases h
  |false=>
   rw [ha] at h
   refine List.nodup_cons.2 ⟨λhm=> ?_,kM h⟩
   rw [(Di l a).2 hm] at ha;cases ha
theorem kw:∀(l:List Nat) (i:Nat),fN l i=aL l i
 |[],i=>by simp [fN,aL]
 |a::l,i=>by
  have ih:=kw l i
  unfold aL at ih ⊢
  simp only [fN,ih,List.idxOf?_cons]
  cases h:beq a i with
  |true=>simp [eq_of_beq_eq_true h]
  |false=>
   have:(a==i)=false:=by
    simp only [beq_eq_false_iff_ne]
    intro e;subst e;rw [beq_refl] at h;cases h
   rw [this]
   cases List.idxOf? i l<;>rfl
theorem uQ {α:Type}:∀(l:List α) (i:Nat),ln l i=l[i]?
 |[],i=>by simp [ln]
 |a::l,0=>by simp [ln]
 |a::l,i+1=>by simp [ln,uQ l i]
theorem uR (n:Nat)(is:List Nat)(j:Nat):pO n is.length is j=aJ n is j:=by
 unfold pO aJ
 rw [uQ]
 by_cases h:j<is.length
 ·rw [if_pos h,ble_eq_true_of_le h];rfl
 ·rw [if_neg h]
  have:ble (j+1) is.length=false:=by
   cases hb:ble (j+1) is.length with
   |true=>exact absurd (le_of_ble_eq_true hb) h
   |false=>rfl
  rw [this];rfl
theorem Dj (T:VT)(is ks:List Nat):T.giveF is ks=T.give is ks:=by
 have h1:fN is=aL is:=funext (kw is)
 have h2:fN ks=aL ks:=funext (kw ks)
 simp only [VT.giveF,VT.give,h1,h2,uQ]
theorem Mg (T:VT)(is ks:List Nat)(T':VT):T.backF is ks T'=T.back is ks T':=by
 have h1:pO T.objs.length is.length is=aJ T.objs.length is:=funext (uR _ is)
 have h2:pO T.tails.length ks.length ks=aJ T.tails.length ks:=funext (uR _ ks)
 simp only [VT.backF,VT.back,h1,h2]
theorem rF {T:VT}{ro:Nat}:∀{l:List Nat},qy T ro l=true→∀i∈l,ro≤i∧∃o,T.objs[i]?=some o∧o.live=true
 |[],_,i,h=>by cases h
 |a::l,h,i,hi=>by
  simp only [qy,and_eq_true] at h
  rcases mem_cons.1 hi with rfl | hi
  ·refine ⟨le_of_ble_eq_true h.1.1,?_⟩
   have h2:=h.1.2
   rw [uQ] at h2
   split at h2
   ·rename_i o ho;exact ⟨o,ho,h2⟩
   ·cases h2
  ·exact rF h.2 i hi
theorem wk {n:Nat}:∀{l:List Nat},nt n l=true→∀i∈l,i<n
 |[],_,i,h=>by cases h
 |a::l,h,i,hi=>by
  simp only [nt,and_eq_true] at h
  rcases mem_cons.1 hi with rfl | hi
  ·exact le_of_ble_eq_true h.1
  ·exact wk h.2 i hi
theorem rG:∀{n i:Nat} {l:List Nat},kL i n l=true→∀j,j<n→l[j]?=some (i+j)
 | 0,_,_,_,j,hj=>absurd hj (not_lt_zero j)
 |n+1,i,[],h,_,_=>by simp [kL] at h
 |n+1,i,a::l,h,j,hj=>by
  simp only [kL,and_eq_true] at h
  cases j with
  |zero=>simp [eq_of_beq_eq_true h.1]
  |succ j=>
   rw [List.getElem?_cons_succ,rG h.2 j (by omega)]
   congr 1;omega
section
variable {P:Program}{G:aP}
def Gh.pickG (g:Gh)(is ks:List Nat):Gh:={g with obj:=λj=>(is[j]?).bind g.obj,tail:=λj=>(ks[j]?).bind g.tail}
theorem tE (g:Gh)(is ks:List Nat):rV g (g.pickG is ks) (aL is) (aL ks) where
 obj i i' b h1 h2:=by simp [Gh.pickG,jR h1,h2]
 tail k k' x h1 h2:=by simp [Gh.pickG,jR h1,h2]
 st _ _ h:=h
theorem RW.pickG {g:Gh}{T:VT}{w:World}(r:RW g T w){is ks:List Nat}(hi:is.Nodup)(hk:ks.Nodup)(hkl:∀k∈ks,k<T.tails.length):
  RW (g.pickG is ks) (T.give is ks) w:=by
 have k:=tE g is ks
 have hobj:∀(j:Nat) o,(T.give is ks).objs[j]?=some o→o.live=true→∃i o0,is[j]?=some i∧T.objs[i]?=some o0∧o0.live=true∧o=o0.ren (aL is) (aL ks):=by
  intro j o h hl
  simp only [VT.give,getElem?_map,map_eq_some_iff] at h
  obtain ⟨i,h1,rfl⟩:=h
  rw [VO.ren_live] at hl
  cases h2:T.objs[i]? with
  |none=>rw [h2] at hl;cases hl
  |some o0=>rw [h2] at hl;exact ⟨i,o0,h1,h2,hl,by simp⟩
 have hsub:∀(j:Nat) x,(g.pickG is ks).tail j=some x→∃k0,ks[j]?=some k0∧g.tail k0=some x:=λj x h=>by simpa [Gh.pickG,Option.bind_eq_some_iff] using h
 refine ⟨?_,?_,?_,r.st,r.fr,?_,?_,?_,?_,?_,?_,?_⟩
 ·intro j o h hl
  obtain ⟨i,o0,h1,h2,h3,rfl⟩:=hobj j o h hl
  obtain ⟨b,h4,h5,h6,h7⟩:=r.obj i o0 h2 h3
  exact ⟨b,by simp [Gh.pickG,h1,h4],h5.ren k,h6,h7⟩
 ·intro i j oi oj b h1 l1 h2 l2 b1 b2
  obtain ⟨i0,o1,a1,a2,a3,rfl⟩:=hobj i oi h1 l1
  obtain ⟨j0,o2,c1,c2,c3,rfl⟩:=hobj j oj h2 l2
  simp only [Gh.pickG,a1,c1,Option.bind_some] at b1 b2
  have:=r.inj i0 j0 o1 o2 b a2 a3 c2 c3 b1 b2
  subst this
  exact lB hi a1 c1
 ·intro id hid
  simp only [VT.give,length_map] at hid
  simp [Gh.pickG,List.getElem?_eq_none hid]
 ·intro j p h
  simp only [VT.give,getElem?_map,map_eq_some_iff] at h
  obtain ⟨k0,h1,rfl⟩:=h
  have hlt:=hkl k0 (List.mem_of_getElem? h1)
  obtain ⟨x,h2,h3,h4,h5⟩:=r.tl k0 _ (List.getElem?_eq_getElem hlt)
  refine ⟨x,by simp [Gh.pickG,h1,h2],?_,?_,h5⟩
  ·rw [List.getElem?_eq_getElem hlt];exact h3
  ·rw [List.getElem?_eq_getElem hlt];exact h4
 ·intro j hj
  simp only [VT.give,length_map] at hj
  simp [Gh.pickG,List.getElem?_eq_none hj]
 ·intro i j x y b h1 h2 i1 i2
  obtain ⟨i0,a1,a2⟩:=hsub i x h1
  obtain ⟨j0,c1,c2⟩:=hsub j y h2
  have:=r.tinj i0 j0 x y b a2 c2 i1 i2
  subst this
  exact lB hk a1 c1
 ·intro i oi b j x h1 l1 b1 hx hin
  obtain ⟨i0,o1,a1,a2,a3,rfl⟩:=hobj i oi h1 l1
  obtain ⟨j0,c1,c2⟩:=hsub j x hx
  simp only [Gh.pickG,a1,Option.bind_some] at b1
  exact r.tobj i0 o1 b j0 x a2 a3 b1 c2 hin
 ·intro j x hx
  obtain ⟨j0,c1,c2⟩:=hsub j x hx
  exact r.own j0 x c2
 ·intro j x hx
  obtain ⟨j0,c1,c2⟩:=hsub j x hx
  exact r.own0 j0 x c2
 ·intro j x hx
  obtain ⟨j0,c1,c2⟩:=hsub j x hx
  exact r.tlo j0 x c2
theorem Evo.pickG {g0 g:Gh}{T0:VT}{w0 w:World}(r0:RW g0 T0 w0)(e:Evo g0 w0 g w){is ks:List Nat}(hp:∀j,j<T0.objs.length→is[j]?=some j)(hq:∀j,j<T0.tails.length→ks[j]?=some j)(hk:ks.Nodup):Evo g0 w0 (g.pickG is ks) w:=by
 refine ⟨e.os,e.tape,e.output,e.size,λid b hb=> ?_,e.st,e.fr,e.frb,e.frs,λk x hx=> ?_,λk x h1 h2=> ?_,e.csz⟩
 ·simp only [Gh.pickG,hp id (By r0 hb),Option.bind_some];exact e.obj id b hb
 ·simp only [Gh.pickG,hq k (pX r0 hx),Option.bind_some];exact e.tail k x hx
 ·simp only [Gh.pickG,Option.bind_eq_some_iff] at h2
  obtain ⟨k0,h3,h4⟩:=h2
  refine e.tnew k0 x ?_ h4
  by_cases hlt:k0<T0.tails.length
  ·have:=lB hk h3 (hq k0 hlt)
   subst this;exact h1
  ·exact r0.tout k0 (by omega)
theorem VCx.compact {f:FuncId}{xs:List TV}{T:VT}{Q Q':TV→VT→Prop}(h:VCx P G 0 f xs T Q)(k:∀y T',Q y T'→∃y1 T1,wi T.objs.length T.tails.length y T'=some (y1,T1)∧Q' y1 T1):VCx P G 0 f xs T Q':=by
 intro g w us rw0 hG hx
 refine Calls.mono (h g w us rw0 hG hx) ?_
 rintro e w' ⟨v,x,g',T',he,hq,e',r',hv,hfx⟩
 obtain ⟨y1,T1,hc,hq'⟩:=k x T' hq
 unfold wi at hc
 simp only at hc
 generalize hr:b8 Bn T' (x::(T'.objs.take T.objs.length).flatMap VO.parts) (tD T.objs.length) (tD T.tails.length)=p at hc
 obtain ⟨is0,ks0⟩:=p
 simp only at hc
 generalize rE is0 []=is at hc
 generalize rE ks0 []=ks at hc
 cases hb:(jh is&&jh ks&&nt T'.objs.length is&&nt T'.tails.length ks&&kL 0 T.objs.length is&&kL 0 T.tails.length ks) with
 |false=>rw [hb] at hc;cases hc
 |true=>
  rw [hb] at hc
  simp only [cond_true,Option.some.injEq,Prod.mk.injEq] at hc
  obtain ⟨rfl,rfl⟩:=hc
  simp only [and_eq_true] at hb
  obtain ⟨⟨⟨⟨⟨b1,b2⟩,b3⟩,b4⟩,b5⟩,b6⟩:=hb
  have hp:∀j,j<T.objs.length→is[j]?=some j:=λj hj=>by have:=rG b5 j hj;simpa using this
  have hq0:∀j,j<T.tails.length→ks[j]?=some j:=λj hj=>by have:=rG b6 j hj;simpa using this
  have h1:fN is=aL is:=funext (kw is)
  have h2:fN ks=aL ks:=funext (kw ks)
  rw [h1,h2,Dj] at hq'
  refine ⟨v,_,g'.pickG is ks,T'.give is ks,he,hq',Evo.pickG rw0 e' hp hq0 (kM b2),r'.pickG (kM b1) (kM b2) (wk b4),hv.ren (tE g' is ks),?_,λi hi=>absurd hi (not_lt_zero i),λi o b hi=>absurd hi (not_lt_zero i)⟩
  simp only [VT.give,length_map]
  rcases Nat.eq_zero_or_pos T.objs.length with h0 | h0
  ·omega
  ·have:=(List.getElem?_eq_some_iff.1 (hp (T.objs.length-1) (by omega))).1
   omega
end
theorem tF:∀{a b:List Value},oF a b=true→a=b
 |[],[],_=>rfl
 |[],_::_,h=>by simp [oF] at h
 |_::_,[],h=>by simp [oF] at h
 |a::l,b::m,h=>by
  simp only [oF,and_eq_true] at h
  rw [vP h.1,tF h.2]
theorem Ay {a b:Value}(h:xV a b=true):a=b:=by
 unfold xV at h
 split at h
 ·have:=tF h;rename_i x y
  cases x;cases y;simp at this;rw [this]
 ·have:=tF h;rename_i x y
  cases x;cases y;simp at this;rw [this]
 ·exact vP h
section
variable {g:Gh}{w:World}
theorem Dk {t t':Tok}(h:xW t t'=true){size n b o c:Nat}(k:TokOk g w t size n b o c):TokOk g w t' size n b o c:=by
 unfold xW at h
 split at h
 ·trivial
 ·exact k
 ·exact k
 ·rw [and_eq_true] at h
  rw [←eq_of_beq_eq_true h.1,←eq_of_beq_eq_true h.2];exact k
 ·rw [and_eq_true] at h
  rw [←eq_of_beq_eq_true h.1,←eq_of_beq_eq_true h.2];exact k
 ·cases h
theorem JG {t t':Tok}(h:xW t t'=true){size:Nat}(k:NilTok g t size):NilTok g t' size:=by
 unfold xW at h
 split at h
 ·trivial
 ·exact k
 ·exact k
 ·rw [and_eq_true] at h
  rw [←eq_of_beq_eq_true h.1,←eq_of_beq_eq_true h.2];exact k
 ·rw [and_eq_true] at h
  rw [←eq_of_beq_eq_true h.1,←eq_of_beq_eq_true h.2];exact k
 ·cases h
mutual
theorem qC:∀(x y:TV) (u:Value),g9 x y=true→VR g w x u→VR g w y u
 |x,.dead,u,_,_=>.dead u
 | .val a,y,u,h,k=>by
  cases y<;>simp only [g9] at h<;>first | (cases h;done) | exact .dead u | (rw [←Ay h];exact k)
 | .ptr i o,y,u,h,k=>by
  cases y<;>simp only [g9,and_eq_true] at h<;>first | (cases h;done) | exact .dead u | (rw [←eq_of_beq_eq_true h.1,←eq_of_beq_eq_true h.2];exact k)
 | .vec s es t,y,u,h,k=>by
  cases y<;>simp only [g9,and_eq_true] at h<;>first | (cases h;done) | exact .dead u | skip
  obtain ⟨⟨h1,h2⟩,h3⟩:=h
  rw [←eq_of_beq_eq_true h1,←sE _ _ h3]
  rcases k.vec_inv with ⟨rfl,rfl,q1⟩ | ⟨b,o,c,us,rfl,f1,f2,f3,f4,f5,f6,f7,f8⟩ | ⟨a,rfl,rfl,q1⟩
  rotate_left 2
  ·exact .odd a (Dk h2 q1)
  ·exact .nil (JG h2 q1)
  ·exact .mk_vec rfl f1 f2 f3 (Dk h2 f4) f5 f6 f7 f8
 | .elt cs,y,u,h,k=>by
  cases y<;>simp only [g9] at h<;>first | (cases h;done) | exact .dead u | skip
  rename_i ds
  obtain ⟨b,o,us,rfl,k1,k2,k3,k4⟩:=k.elt_inv
  obtain ⟨l1,l2⟩:=hJ cs ds us h k1
  exact .mk_elt l2 (λj hj=>k2 j (by rw [l1];exact hj)) k3 k4
 | .sl a b c d,y,u,h,k=>by
  cases y<;>simp only [g9,and_eq_true] at h<;>first | (cases h;done) | exact .dead u | (rw [←eq_of_beq_eq_true h.1.1.1,←eq_of_beq_eq_true h.1.1.2,←eq_of_beq_eq_true h.1.2,←eq_of_beq_eq_true h.2];exact k)
 | .row a b c d,y,u,h,k=>by
  cases y<;>simp only [g9,and_eq_true] at h<;>first | (cases h;done) | exact .dead u | (rw [←eq_of_beq_eq_true h.1.1.1,←eq_of_beq_eq_true h.1.1.2,←eq_of_beq_eq_true h.1.2,←eq_of_beq_eq_true h.2];exact k)
 | .agg cs,y,u,h,k=>by
  cases y<;>simp only [g9] at h<;>first | (cases h;done) | exact .dead u | skip
  obtain ⟨us,rfl,k1⟩:=k.agg_inv
  exact .mk_agg (hJ cs _ us h k1).2
 | .tup cs,y,u,h,k=>by
  cases y<;>simp only [g9] at h<;>first | (cases h;done) | exact .dead u | skip
  obtain ⟨us,rfl,k1⟩:=k.tup_inv
  exact .mk_tup (hJ cs _ us h k1).2
 | .fn f a b,y,u,h,k=>by
  cases y<;>simp only [g9,and_eq_true] at h<;>first | (cases h;done) | exact .dead u | skip
  obtain ⟨us,vs,rfl,k1,k2⟩:=k.fn_inv
  rw [←Ex h.1.1]
  have h1:=(hJ a _ us h.1.2 k1).2
  have h2:=(hJ b _ vs h.2 k2).2
  exact .fn h1.1 h1.2 h2.1 h2.2
 | .ifc t x,y,u,h,k=>by
  cases y<;>simp only [g9,and_eq_true] at h<;>first | (cases h;done) | exact .dead u | skip
  obtain ⟨v,rfl,k1⟩:=k.ifc_inv
  rw [←eq_of_beq_eq_true h.1]
  exact .ifc (qC x _ v h.2 k1)
 | .map i,y,u,h,k=>by
  cases y<;>simp only [g9] at h<;>first | (cases h;done) | exact .dead u | (rw [←eq_of_beq_eq_true h];exact k)
 | .yld i,y,u,h,k=>by
  cases y<;>simp only [g9] at h<;>first | (cases h;done) | exact .dead u
theorem hJ:∀(x y:List TV) (us:List Value),gq x y=true→VRs g w x us→x.length=y.length∧VRs g w y us
 |[],[],us,_,k=>⟨rfl,k⟩
 |[],_::_,us,h,_=>by simp [gq] at h
 |_::_,[],us,h,_=>by simp [gq] at h
 |x::l,y::m,[],_,k=>by have:=k.1;simp at this
 |x::l,y::m,u::us,h,k=>by
  simp only [gq,and_eq_true] at h
  have h1:VRs g w l us:=⟨by have:=k.1;simpa using this,λj y v hy hv=>k.2 (j+1) y v (by simpa using hy) (by simpa using hv)⟩
  obtain ⟨l1,l2⟩:=hJ l m us h.2 h1
  exact ⟨by simp [l1],VRs.cons (qC x y u h.1 (k.2 0 x u rfl rfl)) l2⟩
end
theorem Mh {a b:CK}(h:Hs a b=true):a=b:=by
 unfold Hs at h
 split at h
 ·rw [of_decide_eq_true h]
 ·rfl
 ·rfl
 ·cases h
theorem Az:∀{a b:List CK},qz a b=true→a=b
 |[],[],_=>rfl
 |[],_::_,h=>by simp [qz] at h
 |_::_,[],h=>by simp [qz] at h
 |a::l,b::m,h=>by
  simp only [qz,and_eq_true] at h
  rw [Mh h.1,Az h.2]
theorem Mi {a b:KS}(h:Ht a b=true):a=b:=by
 simp only [Ht,and_eq_true] at h
 cases a;cases b
 simp only at h
 rw [Az h.2]
 rename_i a1 _ b1 _
 cases a1<;>cases b1<;>simp_all
theorem Fa:∀{a b:List (Value × TV × Nat)},zi a b=true→a.map (·.1)=b.map (·.1)∧a.map (·.2.2)=b.map (·.2.2)∧∀us,VRs g w (a.map (·.2.1)) us→VRs g w (b.map (·.2.1)) us
 |[],[],_=>⟨rfl,rfl,λ_ h=>h⟩
 |[],_::_,h=>by simp [zi] at h
 |_::_,[],h=>by simp [zi] at h
 |a::l,b::m,h=>by
  simp only [zi,and_eq_true] at h
  obtain ⟨⟨⟨h1,h2⟩,h3⟩,h4⟩:=h
  obtain ⟨i1,i2,i3⟩:=Fa h4
  refine ⟨by simp [Ay h1,i1],by simp [eq_of_beq_eq_true h3,i2],λus hu=> ?_⟩
  match us,hu with
  |[],hu=>have:=hu.1;simp at this
  |u::us,hu=>
   refine VRs.cons (qC _ _ u h2 (hu.2 0 _ u rfl rfl)) (i3 us ⟨by have:=hu.1;simpa using this,λj y v hy hv=>hu.2 (j+1) y v (by simpa using hy) (by simpa using hv)⟩)
theorem AA:∀{a b:List Nat},qA a b=true→a=b
 |[],[],_=>rfl
 |[],_::_,h=>by simp [qA] at h
 |_::_,[],h=>by simp [qA] at h
 |a::l,b::m,h=>by
  simp only [qA,and_eq_true] at h
  rw [eq_of_beq_eq_true h.1,AA h.2]
theorem Pv {o p:VO}(h:wj o p=true){b:Nat}(k:OR g w b o):OR g w b p.canon:=by
 unfold wj at h
 split at h
 ·obtain ⟨us,t,k1,k2,k3⟩:=k
  exact ⟨us,t,k1,(hJ _ _ us h k2).2,k3⟩
 ·obtain ⟨us,t,k1,k2,k3,k4⟩:=k
  obtain ⟨l1,l2⟩:=hJ _ _ _ h k3
  exact ⟨us,t,k1,by rw [←l1];exact k2,by rw [←l1];exact l2,by rw [←l1];exact k4⟩
 ·simp only [and_eq_true] at h
  obtain ⟨⟨h1,h2⟩,h3⟩:=h
  obtain ⟨ms,k1,k2,k3,k4,k5,k6,k7⟩:=k
  obtain ⟨i1,i2,i3⟩:=Fa (g:=g) (w:=w) h2
  have e1:=Mi h1
  subst e1
  rw [eq_of_beq_eq_true h3] at k1
  refine ⟨ms,k1,by rw [k2,i1],i3 _ k3,by rw [k4,i2],λe he=> ?_,by rw [←i1];exact k6,λ_ _=>rfl⟩
  have:e.1∈List.map (λp:Value × TV × Nat=>p.1) _:=List.mem_map_of_mem (f:=λp:Value × TV × Nat=>p.1) he
  rw [←i1] at this
  obtain ⟨e',he',h5⟩:=List.mem_map.1 this
  rw [←h5];exact k5 e' he'
 ·simp only [and_eq_true] at h
  obtain ⟨⟨⟨h1,h2⟩,h3⟩,h4⟩:=h
  obtain ⟨mb,k1,k2⟩:=k
  rw [eq_of_beq_eq_true h2,AA h3,eq_of_beq_eq_true h4] at k1
  exact ⟨mb,k1,qC _ _ _ h1 k2⟩
 ·exact k
 ·exact k
 ·cases h
theorem px {o p:VO}(h:wj o p=true):p.canon.live=o.live:=by
 unfold wj at h
 split at h<;>first | rfl | cases h
theorem wl:∀{a b:List VO},uP a b=true→a.length=b.length∧∀(i:Nat) p,b[i]?=some p→∃o,a[i]?=some o∧wj o p=true
 |[],[],_=>⟨rfl,λi p h=>by simp at h⟩
 |[],_::_,h=>by simp [uP] at h
 |_::_,[],h=>by simp [uP] at h
 |a::l,b::m,h=>by
  simp only [uP,and_eq_true] at h
  obtain ⟨h1,h2⟩:=wl h.2
  refine ⟨by simp [h1],λi p hi=> ?_⟩
  cases i with
  |zero=>simp at hi;subst hi;exact ⟨a,rfl,h.1⟩
  |succ i=>simp at hi;simpa using h2 i p hi
theorem AB:∀{a b:List (Nat × Nat × Bool)},qB a b=true→a=b
 |[],[],_=>rfl
 |[],_::_,h=>by simp [qB] at h
 |_::_,[],h=>by simp [qB] at h
 | (a1,a2,a3)::l,(b1,b2,b3)::m,h=>by
  simp only [qB,and_eq_true] at h
  obtain ⟨⟨⟨h1,h2⟩,h3⟩,h4⟩:=h
  have:a3=b3:=by cases a3<;>cases b3<;>simp_all
  rw [eq_of_beq_eq_true h1,eq_of_beq_eq_true h2,this,AB h4]
theorem Dl {T S:VT}(h:pP T S=true):T.objs.length=S.canon.objs.length:=by
 simp only [pP,and_eq_true] at h
 rw [(wl h.1).1];simp [VT.canon]
theorem Fb {T S:VT}(h:pP T S=true)(r:RW g T w):RW g S.canon w:=by
 have hl:=Dl h
 simp only [pP,and_eq_true] at h
 have ht:S.canon.tails=T.tails:=(AB h.2).symm
 have hob:∀(id:Nat) p,S.canon.objs[id]?=some p→∃o q,T.objs[id]?=some o∧wj o q=true∧p=q.canon:=λid p hp=>by
  simp only [VT.canon,getElem?_map,map_eq_some_iff] at hp
  obtain ⟨q,h1,rfl⟩:=hp
  obtain ⟨o,h2,h3⟩:=(wl h.1).2 id q h1
  exact ⟨o,q,h2,h3,rfl⟩
 refine ⟨?_,?_,λid hid=>r.out id (by omega),r.st,r.fr,by rw [ht];exact r.tl,by rw [ht];exact r.tout,r.tinj,?_,r.own,r.own0,r.tlo⟩
 ·intro id p hp hlv
  obtain ⟨o,q,h1,h2,rfl⟩:=hob id p hp
  rw [px h2] at hlv
  obtain ⟨b,k1,k2,k3⟩:=r.obj id o h1 hlv
  exact ⟨b,k1,Pv h2 k2,k3⟩
 ·intro i j oi oj b hi li hj lj b1 b2
  obtain ⟨o1,q1,h1,h2,rfl⟩:=hob i oi hi
  obtain ⟨o2,q2,h3,h4,rfl⟩:=hob j oj hj
  rw [px h2] at li
  rw [px h4] at lj
  exact r.inj i j o1 o2 b h1 li h3 lj b1 b2
 ·intro i oi b k x hi li b1 hx hin
  obtain ⟨o1,q1,h1,h2,rfl⟩:=hob i oi hi
  rw [px h2] at li
  exact r.tobj i o1 b k x h1 li b1 hx hin
end
section
variable {P:Program}{G:aP}
theorem VCx.pre {f:FuncId}{xs ys:List TV}{T S:VT}{Q:TV→VT→Prop}(hT:pP T S=true)(hx:gq ys xs=true)(h:VCx P G 0 f xs S.canon Q):VCx P G 0 f ys T Q:=by
 intro g w us rw0 hG hxs
 refine Calls.mono (h g w us (Fb hT rw0) hG (hJ _ _ _ hx hxs).2) ?_
 rintro e w' ⟨v,x,g',T',he,hq,e',r',hv,hfx⟩
 exact ⟨v,x,g',T',he,hq,e',r',hv,by rw [Dl hT];exact hfx.len,λi hi=>absurd hi (not_lt_zero i),λi o b hi=>absurd hi (not_lt_zero i)⟩
def eo (P:Program)(G:aP)(f:FuncId)(e:cK):Prop:=VCx P G 0 f e.xs e.T.canon λy T'=>y=e.y∧T'=e.T'.canon
theorem VCx.post {f:FuncId}{xs:List TV}{T S:VT}{y:TV}(hl:T.objs.length≤S.objs.length)(h:VCx P G 0 f xs T λx T'=>g9 x y=true∧pP T' S=true):VCx P G 0 f xs T λx T'=>x=y∧T'=S.canon:=by
 intro g w us rw0 hG hxs
 refine Calls.mono (h g w us rw0 hG hxs) ?_
 rintro e w' ⟨v,x,g',T',he,⟨h1,h2⟩,e',r',hv,hfx⟩
 exact ⟨v,y,g',S.canon,he,⟨rfl,rfl⟩,e',Fb h2 r',qC _ _ _ h1 hv,by simpa [VT.canon] using hl,λi hi=>absurd hi (not_lt_zero i),λi o b hi=>absurd hi (not_lt_zero i)⟩
def Mj (e:cK)(y:TV)(T:VT):Prop:=cond (Dh e y T) True False
theorem Pw {f:FuncId}{e:cK}(hl:ble e.T.objs.length e.T'.objs.length=true)(h:VCx P G 0 f e.xs e.T.canon (Mj e)):eo P G f e:=by
 refine VCx.post (by have:=le_of_ble_eq_true hl;simpa [VT.canon] using this) (VCx.compact h λy T' hq=> ?_)
 unfold Mj at hq
 cases hb:Dh e y T' with
 |false=>rw [hb] at hq;exact hq.elim
 |true=>
  unfold Dh at hb
  split at hb
  ·rename_i y1 T1 hc
   rw [and_eq_true] at hb
   refine ⟨y1,T1,?_,hb.1,hb.2⟩
   rw [←hc];simp [VT.canon]
  ·cases hb
def Mk (l:List cK):be:=λro ys T K=>match JF ro ys T with
 |some (is,ks,xs,S)=>(match nJ xs S l with
  |some e=>K (e.y.ren (pO T.objs.length is.length is) (pO T.tails.length ks.length ks)) (T.backF is ks e.T'.canon)
  |none=>False)
 |none=>False
theorem xX {xs:List TV}{S:VT}{e:cK}:∀{l:List cK},nJ xs S l=some e→e∈l∧gq xs e.xs=true∧pP S e.T=true∧S.objs.length≤e.T'.objs.length∧S.tails.length≤e.T'.tails.length
 |[],h=>by simp [nJ] at h
 |a::l,h=>by
  simp only [nJ] at h
  cases hb:(gq xs a.xs&&pP S a.T&&ble S.objs.length a.T'.objs.length&&ble S.tails.length a.T'.tails.length) with
  |true=>
   rw [hb] at h
   simp only [cond_true,Option.some.injEq] at h
   subst h
   simp only [and_eq_true] at hb
   exact ⟨mem_cons_self,hb.1.1.1,hb.1.1.2,le_of_ble_eq_true hb.1.2,le_of_ble_eq_true hb.2⟩
  |false=>
   rw [hb] at h
   obtain ⟨h1,h2⟩:=xX (show nJ xs S l=some e from h)
   exact ⟨mem_cons_of_mem _ h1,h2⟩
theorem Py {f:FuncId}{l:List cK}(hv:eJ G)(h:∀e∈l,eo P G f e):∀ro ys T K,Mk l ro ys T K→VCx P G ro f ys T K:=by
 intro ro ys T K hk
 unfold Mk at hk
 split at hk
 ·rename_i is ks xs S hsm
  unfold JF at hsm
  simp only at hsm
  generalize hr:b8 Bn T ys [] []=p at hsm
  obtain ⟨is0,ks0⟩:=p
  simp only at hsm
  generalize rE is0 []=is' at hsm
  generalize rE ks0 []=ks' at hsm
  cases hb:(jh is' &&jh ks' &&qy T ro is' &&nt T.tails.length ks') with
  |false=>rw [hb] at hsm;cases hsm
  |true=>
   rw [hb] at hsm
   simp only [cond_true,Option.some.injEq,Prod.mk.injEq] at hsm
   obtain ⟨rfl,rfl,rfl,rfl⟩:=hsm
   simp only [and_eq_true] at hb
   obtain ⟨⟨⟨b1,b2⟩,b3⟩,b4⟩:=hb
   split at hk
   ·rename_i e he
    obtain ⟨c1,c2,c3,c4,c5⟩:=xX he
    have h1:fN is'=aL is':=funext (kw is')
    have h2:fN ks'=aL ks':=funext (kw ks')
    have o1:pO T.objs.length is'.length is'=aJ T.objs.length is':=funext (uR _ is')
    have o2:pO T.tails.length ks'.length ks'=aJ T.tails.length ks':=funext (uR _ ks')
    rw [o1,o2,Mg] at hk
    rw [Dj] at c3 c4 c5
    have hc:VCx P G 0 f (aw (fN is') (fN ks') ys) (T.give is' ks') λy T'=>y=e.y∧T'=e.T'.canon:=VCx.pre c3 c2 (h e c1)
    rw [h1,h2] at hc
    refine (VCx.lift is' ks' hv (kM b1) (kM b2) (λi hi=>(rF b3 i hi).2) (wk b4) (λi hi=>(rF b3 i hi).1) rfl hc ?_).mono ?_
    ·rintro x T' ⟨rfl,rfl⟩
     simp only [VT.give,length_map] at c4 c5
     exact ⟨by simpa [VT.canon] using c4,by simpa [VT.canon] using c5⟩
    ·rintro z T'' ⟨x,T',⟨rfl,rfl⟩,rfl,rfl⟩
     exact hk
   ·exact hk.elim
 ·exact hk.elim
def Hu (P:Program)(G:aP)(C:FuncId→Option be)(f:FuncId)(e:cK):Prop:=Gc P G C 3000 (λ_=>none) 0 f e.xs e.T.canon (Mj e)
theorem dn {C:FuncId→Option be}(hm:P.follows .mixedOrders=true)(hB:eQ P=true)(hC:bu P G C){f:FuncId}{e:cK}(hl:ble e.T.objs.length e.T'.objs.length=true){X:Prop}(hx:X)(h:Hu P G C f e=X):eo P G f e:=by
 have h1:Hu P G C f e:=by rw [h];exact hx
 unfold Hu at h1
 exact Pw hl (Cf hm hB hC ag h1)
attribute [irreducible] Hu
def qD (g:FuncId):List (FuncId × cK)→List cK
 |[]=> []
 |p::l=>bif beq p.1 g then p.2::qD g l else qD g l
def fh (l:List (FuncId × cK)):FuncId→Option be:=λg=>match qD g l with
 |[]=>none
 |e::es=>some (Mk (e::es))
def xY (P:Program)(G:aP)(l:List (FuncId × cK)):Prop:=∀p∈l,eo P G p.1 p.2
theorem cX:xY P G []:=λ_ h=>by cases h
theorem cD {f:FuncId}{e:cK}{l:List (FuncId × cK)}(h:eo P G f e)(k:xY P G l):xY P G ((f,e)::l):=λp hp=>by
 rcases mem_cons.1 hp with rfl | hp
 ·exact h
 ·exact k p hp
theorem rH {g:FuncId}{e:cK}:∀{l:List (FuncId × cK)},e∈qD g l→(g,e)∈l
 |[],h=>by simp [qD] at h
 |p::l,h=>by
  simp only [qD] at h
  cases hb:beq p.1 g with
  |true=>
   rw [hb] at h
   rcases mem_cons.1 h with rfl | h
   ·rw [←eq_of_beq_eq_true hb];exact mem_cons_self
   ·exact mem_cons_of_mem _ (rH h)
  |false=>rw [hb] at h;exact mem_cons_of_mem _ (rH h)
theorem cY {l:List (FuncId × cK)}(hv:eJ G)(h:xY P G l):bu P G (fh l):=by
 intro g W hW
 unfold fh at hW
 split at hW
 ·cases hW
 ·rename_i e es he
  injection hW with hW;subst hW
  exact Py hv λe' h'=>h (g,e') (rH (by rw [he];exact h'))
end
section
variable {P:Program}{G:aP}
theorem VCx.pick {f:FuncId}{xs:List TV}{T:VT}{Q:TV→VT→Prop}(h:VCx P G 0 f xs T λx T'=>∃is ks:List Nat,(is.Nodup∧ks.Nodup∧(∀i∈is,i<T'.objs.length)∧(∀k∈ks,k<T'.tails.length)∧(∀j,j<T.objs.length→is[j]?=some j)∧(∀j,j<T.tails.length→ks[j]?=some j))∧Q (x.ren (aL is) (aL ks)) (T'.give is ks)):VCx P G 0 f xs T Q:=by
 intro g w us rw0 hG hx
 refine Calls.mono (h g w us rw0 hG hx) ?_
 rintro e w' ⟨v,x,g',T',he,⟨is,ks,⟨b1,b2,b3,b4,hp,hq0⟩,hq⟩,e',r',hv,hfx⟩
 refine ⟨v,_,g'.pickG is ks,T'.give is ks,he,hq,Evo.pickG rw0 e' hp hq0 b2,r'.pickG b1 b2 b4,hv.ren (tE g' is ks),?_,λi hi=>absurd hi (not_lt_zero i),λi o b hi=>absurd hi (not_lt_zero i)⟩
 simp only [VT.give,length_map]
 rcases Nat.eq_zero_or_pos T.objs.length with h0 | h0
 ·omega
 ·have:=(List.getElem?_eq_some_iff.1 (hp (T.objs.length-1) (by omega))).1
  omega
end
abbrev vz:=26
abbrev xZ:=42
def rI (n:Int)(y:TV)(T2:VT)(ro:Nat)(T:VT):Prop:=VCx prog ae ro xZ [.val (.slice none 0 0),.val (.int .i64 n)] T λx T1=>x=y∧T1=T2
def Dm (gy:TV)(gT:VT):be:=λro ys T K=>match ys with
 |[.val (.slice none 0 0),.val (.int .i64 n)]=>rI n gy gT ro T∧K gy gT
 |_=>aQ 84 default ys
def RU (y1 y2:TV)(T1 T2:VT):List TV→Option (TV × Option VT)
 |[.row _ 0 _ _,.vec _ (_::_) _]=>some (y1,some T1)
 |[.row _ (_+1) _ _,.vec _ (_::_) _]=>some (y2,some T2)
 |_=>none
def Hv (y1 y2:TV)(T1 T2:VT):gD:=λo σ _=>match o.dst with
 |some d=>bif beq d 33 then RU y1 y2 T1 T2 σ else none
 |none=>none
theorem Nh (n:Int)(k:Nat)(W:List TV)(T:VT)(Q:TV→VT→Prop):ax prog ae bo (bB [(22,.row 1 0 0 k,some λT=>T.newRow W)]) 300 aU 0 xZ [.val (.slice none 0 0),.val (.int .i64 n)] aD Q=
 (bif decide (n<(0:Int))
 then False
 else (bif decide (wrap i64 (n-wrap i64 ((↑(0:Nat):Int)-(↑(0:Nat):Int)))>(0:Int))
 then (bp prog (λ_=>.none) 0 aD (.call ⟨(.builtin .append),#[(.tmp 20),(.tmp 21)],#[22,3]⟩) [(20,aO),(21,(ah (wrap i64 (n-wrap i64 ((↑(0:Nat):Int)-(↑(0:Nat):Int))))))] (.row 1 0 0 k) (oh W)∧
 Q pJ (oh W))
 else Q aO aD)):=by kernel_rfl
theorem Pz (q r:List TV)(a b:Bs)(k:Nat)(W:List TV)(tok tok1 tok2:Tok)(y2:TV)(T0 T1 T2:VT)(Q:TV→VT→Prop):ax prog ae (aT [(xZ,Dm pJ T0)]) (Hv (og k) y2 T1 T2) 300 aU 0 vz [.vec 1 [[.vec 1 (q::a) tok1],[.vec 1 (r::b) tok2]] tok] aD Q=
 (bif decide (wrap i64 ((0:Int)+(↑(length (q::a)):Int))<(0:Int))
 then False
 else (bif decide (wrap i64 (wrap i64 ((0:Int)+(↑(length (q::a)):Int))+(↑(length (r::b)):Int))<(0:Int))
 then False
 else (rI (wrap i64 (wrap i64 ((0:Int)+(↑(length (q::a)):Int))+(↑(length (r::b)):Int))) pJ (T0) 0 aD∧
 (bp prog (λ_=>.none) 0 (T0) (.call ⟨(.builtin .append),#[(.tmp 31),(.tmp 32)],#[22,22]⟩) [(31,pJ),(32,(.vec 1 ([(q)]++a) tok1))] (og k) (T1)∧
 (bp prog (λ_=>.none) 0 (T1) (.call ⟨(.builtin .append),#[(.tmp 31),(.tmp 32)],#[22,22]⟩) [(31,(og k)),(32,(.vec 1 ([(r)]++b) tok2))] (y2) (T2)∧
 Q (y2) (T2)))))):=by kernel_rfl
theorem RV (q:List TV)(a:Bs)(k:Nat)(W:List TV)(tok tok1 tok2:Tok)(T1:VT)(Q:TV→VT→Prop):ax prog ae (aT [(xZ,Dm pJ (cw (.row W)))]) (Hv (og k) .dead T1 T1) 300 aU 0 vz [.vec 1 [[.vec 1 (q::a) tok1],[.vec 1 [] tok2]] tok] aD Q=
 (bif decide (wrap i64 ((0:Int)+(↑(length (q::a)):Int))<(0:Int))
 then False
 else (bif decide (wrap i64 (wrap i64 ((0:Int)+(↑(length (q::a)):Int))+(↑(0:Nat):Int))<(0:Int))
 then False
 else (rI (wrap i64 (wrap i64 ((0:Int)+(↑(length (q::a)):Int))+(↑(0:Nat):Int))) pJ (oh W) 0 aD∧
 (bp prog (λ_=>.none) 0 (oh W) (.call ⟨(.builtin .append),#[(.tmp 31),(.tmp 32)],#[22,22]⟩) [(31,pJ),(32,(.vec 1 ([(q)]++a) tok1))] (og k) (T1)∧
 Q (og k) (T1))))):=by kernel_rfl
theorem RX (q:List TV)(a:Bs)(k:Nat)(W:List TV)(tok tok1 tok2:Tok)(T1:VT)(Q:TV→VT→Prop):ax prog ae (aT [(xZ,Dm pJ (cw (.row W)))]) (Hv (og k) .dead T1 T1) 300 aU 0 vz [.vec 1 [[.vec 1 [] tok1],[.vec 1 (q::a) tok2]] tok] aD Q=
 (bif decide (wrap i64 (wrap i64 ((0:Int)+(↑(0:Nat):Int))+(↑(length (q::a)):Int))<(0:Int))
 then False
 else (rI (wrap i64 (wrap i64 ((0:Int)+(↑(0:Nat):Int))+(↑(length (q::a)):Int))) pJ (oh W) 0 aD∧
 (bp prog (λ_=>.none) 0 (oh W) (.call ⟨(.builtin .append),#[(.tmp 31),(.tmp 32)],#[22,22]⟩) [(31,pJ),(32,(.vec 1 ([(q)]++a) tok2))] (og k) (T1)∧
 Q (og k) (T1)))):=by kernel_rfl
theorem RY (tok tok1 tok2:Tok)(Q:TV→VT→Prop):ax prog ae (aT [(xZ,Dm (.val (.slice none 0 0)) aD)]) aR 300 aU 0 vz [.vec 1 [[.vec 1 [] tok1],[.vec 1 [] tok2]] tok] aD Q=
 (rI 0 aO aD 0 aD∧
 Q aO aD):=by kernel_rfl
def zR (n:Nat):List TV:=(zeroCells (Value.int .u8 0).cells n).toList.map .val
theorem RZ (f g:Nat→Option Nat)(n:Nat):aw f g (zR n)=zR n:=zG _ _ _
theorem R0 {n:Int}(h0:0<n)(h1:n≤64000000):VCx prog ae 0 xZ [.val (.slice none 0 0),.val (.int .i64 n)] ⟨[],[]⟩ λx T1=>x=.row 1 0 0 0∧T1=⟨[.row (zR n.toNat)],[]⟩:=by
 obtain ⟨inf,i1,i2,i3,i4⟩:=cJ
 refine aj ac aa ai ag (Nh n n.toNat (zR n.toNat) ⟨[],[]⟩ _) ?_
 have e:wrap i64 (n-wrap i64 (((0:Nat):Int)-((0:Nat):Int)))=n:=by
  rw [show wrap i64 (((0:Nat):Int)-((0:Nat):Int))=0 from rfl,Int.sub_zero,dE (by omega) (by omega)]
 refine bg (decide_eq_false (by omega)) (bd (decide_eq_true (by rw [e];exact h0)) ⟨?_,rfl,rfl⟩)
 rw [e]
 have h:=Hr (P:=prog) (G:=ae) (ro:=0) (T:=⟨[],[]⟩) (t:=22) (tn:=3) (s:=.tmp 20) (x:=.tmp 21) (l:= [(20,.val (.slice none 0 0)),(21,.val (.int .i64 n))]) (inf:=inf) (m:=n) underlying22 Tryz.underlying3 i1 i4 (by rw [i2];rfl) (by rw [i2];decide) rfl rfl rfl h0 (by rw [i3];omega)
 rw [i2] at h
 exact h
theorem Hw {n:Int}(h0:0<n)(h1:n≤64000000)(ro:Nat)(T:VT):rI n (.row 1 T.objs.length 0 0) {T with objs:=T.objs++ [.row (zR n.toNat)]} ro T:=by
 unfold rI
 refine (VCx.lift (T:=T) [] [] aV nodup_nil nodup_nil (by simp) (by simp) (by simp) rfl (by rw [VT.give_nil];exact R0 h0 h1) (λ_ _ _=>⟨zero_le _,zero_le _⟩)).mono ?_
 rintro z T' ⟨x,T'',⟨rfl,rfl⟩,rfl,rfl⟩
 refine ⟨by simp [TV.ren,aJ],?_⟩
 rw [VT.back_nil]
 simp [VO.ren,RZ]
theorem R1 (ro:Nat)(T:VT):rI 0 (.val (.slice none 0 0)) T ro T:=by
 unfold rI
 exact VCx.liftPure (y:=.val (.slice none 0 0)) aV (aj ac aa ai ag (Nh 0 0 [] ⟨[],[]⟩ _) ⟨rfl,rfl⟩) rfl (λ_ _=>rfl) ⟨rfl,rfl⟩
theorem R3 {gy:TV}{gT:VT}:∀ro ys T K,Dm gy gT ro ys T K→VCx prog ae ro xZ ys T K:=by
 intro ro ys T K hw
 unfold Dm at hw
 split at hw
 ·obtain ⟨h,hk⟩:=hw
  exact VCx.mono h λx T1 ⟨h1,h2⟩=>by subst h1 h2;exact hk
 ·exact hw.elim
theorem uS:∀l:List Int,(bV l).flatten=l.map eM
 |[]=>rfl
 |z::l=>by
  have:=uS l
  simp only [bV,map_cons,List.flatten_cons] at this ⊢
  rw [this];rfl
theorem zj {w:Bs}(h:IsB w):RwOk w.flatten 0 w.length∧an w.flatten 0 w.length=w:=by
 obtain ⟨⟨l,rfl,hz⟩,hl⟩:=h
 have hn:(bV l).length=l.length:=by simp [bV]
 rw [uS,hn]
 rw [hn] at hl
 refine ⟨⟨by simp,by simpa using hl,l,rfl,hz⟩,?_⟩
 rw [nq (by omega)]
 simp
theorem IsB.append {a b:Bs}(h:IsB a)(k:IsB b)(hl:(a++b).length≤32000000):IsB (a++b):=by
 obtain ⟨⟨l,rfl,hz⟩,_⟩:=h
 obtain ⟨⟨m,rfl,hy⟩,_⟩:=k
 refine ⟨⟨l++m,by simp [bV],λz h=> ?_⟩,hl⟩
 rcases mem_append.1 h with h | h
 ·exact hz z h
 ·exact hy z h
theorem AC {w:Bs}(h:IsB w):w.flatten.length=w.length:=by
 obtain ⟨⟨l,rfl,_⟩,_⟩:=h
 rw [uS]
 simp [bV]
theorem Hx {gy:TV}{gT:VT}:bu prog ae (aT [(xZ,Dm gy gT)]):=aZ λp hp=>by
 obtain rfl:=mem_singleton.1 hp;exact R3
theorem PA {a b:Bs}{tok tok1 tok2:Tok}(ha:IsB a)(hb:IsB b)(hs:a.length+b.length≤32000000)(h0:0<a.length+b.length):VCx prog ae 0 vz [.vec 1 [[.vec 1 a tok1],[.vec 1 b tok2]] tok] ⟨[],[]⟩ λx T'=>x=.row 1 0 0 (a.length+b.length)∧T'=⟨[.row (a++b).flatten],[]⟩:=by
 obtain ⟨inf,i1,i2,i3,i4⟩:=cJ
 have hW:RwOk (a++b).flatten 0 (a++b).length:=(zj (IsB.append ha hb (by rw [length_append];exact hs))).1
 have hfa:=AC ha
 have wr:∀m:Nat,m≤32000000→wrap i64 ((0:Int)+(m:Int))=(m:Int):=λm hm=>by rw [Int.zero_add,dE (by omega) (by omega)]
 have wr2:wrap i64 (wrap i64 ((0:Int)+(a.length:Int))+(b.length:Int))=((a.length+b.length:Nat):Int):=by rw [wr _ (by omega),dE (by omega) (by omega)];omega
 have fin:∀{i:Nat} {x:TV} {T:VT},x=.row 1 i 0 (a.length+b.length)→T.objs[i]?=some (.row (a++b).flatten)→∃is ks:List Nat,(is.Nodup∧ks.Nodup∧(∀j∈is,j<T.objs.length)∧(∀k∈ks,k<T.tails.length)∧(∀j,j<(⟨[],[]⟩:VT).objs.length→is[j]?=some j)∧(∀j,j<(⟨[],[]⟩:VT).tails.length→ks[j]?=some j))∧(x.ren (aL is) (aL ks)=.row 1 0 0 (a.length+b.length)∧T.give is ks=⟨[.row (a++b).flatten],[]⟩):=by
  rintro i x T rfl ho
  refine ⟨[i],[],⟨by simp,by simp,?_,by simp,by simp,by simp⟩,?_,?_⟩
  ·intro j hj
   obtain rfl:=mem_singleton.1 hj
   exact (List.getElem?_eq_some_iff.1 ho).1
  ·simp [TV.ren,aL]
  ·simp only [VT.give,map_cons,map_nil,ho,getD_some,hW.ren]
 refine VCx.pick ?_
 cases a with
 |nil=>
  cases b with
  |nil=>simp at h0
  |cons r b=>
   refine aj ac aa Hx ag (RX r b (b.length+1) (zR (b.length+1)) tok tok1 tok2 ⟨[.gone,.row (r::b).flatten],[]⟩ _) ?_
   have w1:wrap i64 (wrap i64 ((0:Int)+((0:Nat):Int))+(((r::b).length:Nat):Int))=((b.length+1:Nat):Int):=by
    rw [show wrap i64 ((0:Int)+((0:Nat):Int))=0 from rfl];exact wr _ (by simp only [length_nil,length_cons] at hs ⊢;omega)
   refine bg ?_ ⟨?_,?_,fin (i:=1) (by simp) rfl⟩
   ·exact decide_eq_false (by have e:=w1;simp only [length_cons] at e ⊢;rw [e];omega)
   ·have e:=w1
    simp only [length_cons] at e ⊢
    rw [e]
    exact Hw (n:=((b.length+1:Nat):Int)) (by omega) (by simp only [length_nil,length_cons] at hs;omega) 0 ⟨[],[]⟩
   ·have h:=nr (P:=prog) (G:=ae) (ro:=0) (T:=⟨[.row (zR (b.length+1))],[]⟩) (t:=22) (tx:=22) (s:=.tmp 31) (x:=.tmp 32) (l:= [(31,.row 1 0 0 0),(32,.vec 1 (r::b) tok2)]) (inf:=inf) (id:=0) (n:=0) (cs:=zR (b.length+1)) (q0:=r) (qs:=b) underlying22 i1 i4 (by rw [i2];rfl) rfl rfl (by rw [i2];rfl) rfl (zero_le _) (by omega) (by rw [i2];rfl) (by rw [i3];simp only [length_nil,length_cons] at hs ⊢;omega)
    rw [i2,zero_mul,zero_add] at h
    exact h
 |cons q a=>
  cases b with
  |nil=>
   refine aj ac aa Hx ag (RV q a (a.length+1) (zR (a.length+1)) tok tok1 tok2 ⟨[.gone,.row (q::a).flatten],[]⟩ _) ?_
   have w1:wrap i64 ((0:Int)+(((q::a).length:Nat):Int))=((a.length+1:Nat):Int):=wr _ (by simp only [length_nil,length_cons] at hs ⊢;omega)
   have w2:wrap i64 (wrap i64 ((0:Int)+(((q::a).length:Nat):Int))+((0:Nat):Int))=((a.length+1:Nat):Int):=by
    rw [w1];exact dE (by omega) (by simp only [length_nil,length_cons] at hs;omega)
   simp only [length_cons] at w1 w2
   refine bg ?_ (bg ?_ ⟨?_,?_,fin (i:=1) (by simp) (by simp)⟩)
   ·exact decide_eq_false (by simp only [length_cons];rw [w1];omega)
   ·exact decide_eq_false (by simp only [length_cons];rw [w2];omega)
   ·simp only [length_cons];rw [w2]
    exact Hw (n:=((a.length+1:Nat):Int)) (by omega) (by simp only [length_nil,length_cons] at hs;omega) 0 ⟨[],[]⟩
   ·have h:=nr (P:=prog) (G:=ae) (ro:=0) (T:=⟨[.row (zR (a.length+1))],[]⟩) (t:=22) (tx:=22) (s:=.tmp 31) (x:=.tmp 32) (l:= [(31,.row 1 0 0 0),(32,.vec 1 (q::a) tok1)]) (inf:=inf) (id:=0) (n:=0) (cs:=zR (a.length+1)) (q0:=q) (qs:=a) underlying22 i1 i4 (by rw [i2];rfl) rfl rfl (by rw [i2];rfl) rfl (zero_le _) (by omega) (by rw [i2];rfl) (by rw [i3];simp only [length_nil,length_cons] at hs ⊢;omega)
    rw [i2,zero_mul,zero_add] at h
    exact h
  |cons r b=>
   refine aj ac aa Hx ag (Pz q r a b (a.length+1) (zR ((q::a).length+(r::b).length)) tok tok1 tok2 (.row 1 2 0 ((q::a).length+(r::b).length)) ⟨[.row (zR ((q::a).length+(r::b).length))],[]⟩ ⟨[.gone,.row (q::a).flatten],[]⟩ ⟨[.gone,.gone,.row ((q::a).flatten++(r::b).flatten)],[]⟩ _) ?_
   have w1:=wr (q::a).length (by omega)
   refine bg ?_ (bg ?_ ⟨?_,?_,?_,fin (i:=2) rfl (by simp)⟩)
   ·rw [w1];exact decide_eq_false (by omega)
   ·rw [wr2];exact decide_eq_false (by omega)
   ·rw [wr2];exact Hw (n:=(((q::a).length+(r::b).length:Nat):Int)) (by omega) (by omega) 0 ⟨[],[]⟩
   ·have h:=nr (P:=prog) (G:=ae) (ro:=0) (T:=⟨[.row (zR ((q::a).length+(r::b).length))],[]⟩) (t:=22) (tx:=22) (s:=.tmp 31) (x:=.tmp 32) (l:= [(31,.row 1 0 0 0),(32,.vec 1 (q::a) tok1)]) (inf:=inf) (id:=0) (n:=0) (cs:=zR ((q::a).length+(r::b).length)) (q0:=q) (qs:=a) underlying22 i1 i4 (by rw [i2];rfl) rfl rfl (by rw [i2];rfl) rfl (zero_le _) (by omega) (by rw [i2];rfl) (by rw [i3];omega)
    rw [i2,zero_mul,zero_add] at h
    exact h
   ·have h:=nr (P:=prog) (G:=ae) (ro:=0) (T:=⟨[.gone,.row (q::a).flatten],[]⟩) (t:=22) (tx:=22) (s:=.tmp 31) (x:=.tmp 32) (l:= [(31,.row 1 1 0 (q::a).length),(32,.vec 1 (r::b) tok2)]) (inf:=inf) (id:=1) (n:=(q::a).length) (cs:=(q::a).flatten) (q0:=r) (qs:=b) underlying22 i1 i4 (by rw [i2];rfl) rfl rfl (by rw [i2];rfl) rfl (zero_le _) (by rw [i2];omega) (by rw [i2];rfl) (by rw [i3];omega)
    rw [i2,mul_one,List.take_of_length_le (by omega)] at h
    exact h
theorem PC {tok tok1 tok2:Tok}:VCx prog ae 0 vz [.vec 1 [[.vec 1 [] tok1],[.vec 1 [] tok2]] tok] ⟨[],[]⟩ λx T'=>x=.val (.slice none 0 0)∧T'=⟨[],[]⟩:=
 aj ac aa Hx ag (RY tok tok1 tok2 _) ⟨R1 _ _,rfl,rfl⟩
--bumped 32
def fW (id:Nat):Code→Option Code
 | .region i ops d=>bif beq i id then some (.region i ops d) else none
 | .block _ c=>fW id c
 | .seq a b=>match fW id a with
  |some c=>some c
  |none=>fW id b
 | .cond _ a b=>match fW id a with
  |some c=>some c
  |none=>fW id b
 | .loop c=>fW id c
 | .scope c=>fW id c
 |_=>none
def cj (P:Program)(f:FuncId)(id:Nat):Code:=(fW id (qm P f)).getD .skip
def zk (P:Program)(G:aP)(C:FuncId→Option be)(F2:gD)(n:Nat)(c:Code):bW:=λ_ ro σ T D K=>match c with
 | .region _ ops false=>qX P G aR (kC P C (vx P G C aR n λ_=>none)) (ql (vx P G C F2 n λ_=>none)) ro ops ops.toList σ T λσ T=>K .normal σ T D
 |_=>False
section
variable {P:Program}{G:aP}
theorem Fc {C:FuncId→Option be}(hm:P.follows .mixedOrders=true)(hB:eQ P=true)(hC:bu P G C){F2:gD}{n:Nat}{c:Code}:∀rd ro σ T D K,zk P G C F2 n c rd ro σ T D K→VWx P G rd ro c σ T D K:=by
 intro rd ro σ T D K h
 unfold zk at h
 split at h
 ·exact q8 (zY hB hC (uA hm hB hC n n (le_refl _) aR _ ag)) (zX (uA hm hB hC n n (le_refl _) F2 _ ag)) h
 ·exact h.elim
def zl (i:Nat)(a:bW × Code)(j:Nat)(b:bW × Code):Nat→Option (bW × Code):=λk=>bif beq k i then some a else bif beq k j then some b else none
theorem Fd {i j:Nat}{a b:bW × Code}(ha:∀rd ro σ T D K,a.1 rd ro σ T D K→VWx P G rd ro a.2 σ T D K)(hb:∀rd ro σ T D K,b.1 rd ro σ T D K→VWx P G rd ro b.2 σ T D K):dy P G (zl i a j b):=by
 intro k W c h
 unfold zl at h
 cases h1:beq k i
 ·rw [h1,cond_false] at h
  cases h2:beq k j
  ·rw [h2,cond_false] at h;cases h
  ·rw [h2,cond_true] at h
   cases h;exact hb
 ·rw [h1,cond_true] at h
  cases h;exact ha
end
def tG (b:Bs)(pas:Int):Bool:=match fa b pas with
 | .inr _=>true
 | .inl _=>false
def Ml (M:MsgS)(b:Bs)(pas:Int):Prop:=fa b pas=.inr M
def R4 (c:Nat)(s:Int)(d:Bs)(b:Bs)(pas:Int):Prop:=fa b pas=.inl (((c+1:Nat):Int),s,d)
def Wf:MsgS:=⟨0,⟨0,0,0,[]⟩,⟨[],0,[],0,0,false,[]⟩,0,0,[]⟩
def Ni:be:=λro ys T K=>match ys with
 |[.row 1 k off n,.val (.int .i64 pas)]=>match T.objs[k]? with
  |some (.row cs)=>(ble ro k=true∧RwOk cs off n∧ble 19 n=true∧off=0)∧bif tG (an cs off n) pas then ∀M:MsgS,Ml M (an cs off n) pas→K (.tup [.agg M.cells,cH 0 0 []]) T else ∀(c:Nat) (s:Int) (d:Bs),R4 c s d (an cs off n) pas→K (.tup [.agg Wf.cells,cH (ofNat (c+1)) s d]) T
  |_=>aQ 80 default ys
 |_=>aQ 83 default ys
def JH:be:=λ_ ys T K=>match ys with
 |[.vec 1 [[.vec 1 a _],[.vec 1 b _]] _]=>(IsB a∧IsB b∧ble (a.length+b.length) 32000000=true)∧bif beq (a.length+b.length) 0 then K (.val (.slice none 0 0)) T else K (.row 1 T.objs.length 0 (a.length+b.length)) {T with objs:=T.objs++ [.row (a++b).flatten]}
 |_=>aQ 83 default ys
abbrev vA:=8
abbrev ip:=43
def eH:Code→Option (Code × Code)
 | .rangeFunc _ _ a b=>some (a,b)
 | .block _ c=>eH c
 | .seq a b=>match eH a with
  |some c=>some c
  |none=>eH b
 | .cond _ a b=>match eH a with
  |some c=>some c
  |none=>eH b
 | .loop c=>eH c
 | .scope c=>eH c
 |_=>none
noncomputable def ep:Code:=match eH (qm prog vA) with
 |some (a,_)=>a
 |none=>.skip
noncomputable def du:Code:=match eH (qm prog vA) with
 |some (_,b)=>b
 |none=>.skip
def iO (pas:Int)(x:TV)(c s:Int)(d:TV)(n:Int):VO:=.cells [.val (.bool true),.val (.int .i64 pas),x,.val (.int .i64 c),.val (.int .i64 s),d,.val (.int .i64 n)]
def Wg:List TV:= [.dead,.dead,.ptr 1 0,.dead,.dead,.dead,.ptr 3 0]++List.replicate 50 .dead
noncomputable def oG (pas c s n:Int)(d x l:TV)(ds:List TV)(tl:bq)(st:LoopState)(pe:Option Code):VT:=⟨[iO pas x c s d n,.cells [.ptr 0 0],.row ds,.cells [l],.cells [.ptr 0 0],.loop st pe Wg #[34,35] ep du],tl⟩
def Wh:List TV:= [.yld 5,.ptr 4 0]++List.replicate 82 .dead
abbrev py (M:MsgS):VO:=(VQ (MsgS.k M) (OpS.n (MsgS.op M)) (OpS.h (MsgS.op M)) (OpS.i (MsgS.op M)) (OpS.l (MsgS.op M)) (UpS.w (MsgS.u M)) (UpS.o (MsgS.u M)) (UpS.x (MsgS.u M)) (UpS.h (MsgS.u M)) (UpS.m (MsgS.u M)) (UpS.hm (MsgS.u M)) (UpS.n (MsgS.u M)) (MsgS.c M) (MsgS.s M) (MsgS.d M))
theorem UE (pas n:Int)(N k k2:Nat)(r:Int)(x1 y73:TV)(l1:List (List TV))(tk1:Tok)(ds ds2:List TV)(tl tl2:bq)(Q:Exit→List TV→List VO→bq→List Nat→Nat→Prop):vx prog aM (aT [(Av,De),(E6,Ni)]) (bB [(999998,.dead,none),(46,.row 1 2 0 k,none),(73,y73,none),(74,.val (.int .i64 r),some λT=>{T with objs:=T.objs.set 2 (.row ds2)}),(81,.row 1 2 0 k2,none)]) 300 (zl 999997 (λ_ _ _ _ _ _=>False,.skip) 1000006 (zk prog aM bo (bB [(49,.vec 15 l1 tk1,some λT=>{T with tails:=tl2})]) 250 (cj prog ip 6),cj prog ip 6)) none 0 (cC prog ip 0) Wh (oG pas 0 0 n mN (sW N) x1 ds tl .ready none) [] (λe σ T D=>Q e (pick [0,1] σ) (T.objs.take 6) T.tails D σ.length)=
 (bif decide ((↑N:Int)≥(19:Int))
 then (((@Eq (Bool) true true)∧
 (RwOk (ds) 0 (N)∧
 ((@Eq (Bool) (ble (19:Nat) N) true)∧
 (@Eq (Nat) 0 0))))∧
 (bif dm (an ds (0:Nat) N)
 then (bif decide (bM (an ds (0:Nat) N)>(↑N:Int))
 then Q .ret [(.yld 5),pM] [(vV pas N n),b7,(.row (ds)),(.cells [x1]),b7,(.loop .ready .none [.dead,.dead,lO,.dead,.dead,.dead,rj,.dead,.dead,.dead,.dead,.dead,.dead,.dead,.dead,.dead,.dead,.dead,.dead,.dead,.dead,.dead,.dead,.dead,.dead,.dead,.dead,.dead,.dead,.dead,.dead,.dead,.dead,.dead,.dead,.dead,.dead,.dead,.dead,.dead,.dead,.dead,.dead,.dead,.dead,.dead,.dead,.dead,.dead,.dead,.dead,.dead,.dead,.dead,.dead,.dead,.dead] #[34,35] ep du)] (tl) [] 84
 else (aS prog (λkk=>(bif beq kk (0:Nat) then (.some pK) else .none)) (.slice 22 (.tmp 44) .none (.some (.tmp 45)) .none) [(44,(sW N)),(45,(ah (bM (an ds (0:Nat) N))))] (sW k)∧
 (((@Eq (Bool) true true)∧
 (RwOk (ds) 0 (k)∧
 ((@Eq (Bool) (ble (19:Nat) k) true)∧
 (@Eq (Nat) 0 0))))∧
 (bif tG (an ds (0:Nat) k) pas
 then (∀M:MsgS,(Ml (M) (an ds (0:Nat) k) (pas)→((cj prog ip (6:Nat)=cj prog ip (6:Nat))∧
 (bp prog (λkk=>(bif beq kk (0:Nat) then (.some pK) else .none)) 0 ⟨[(vV pas N n),b7,(bD ds),(.cells [x1]),b7,(.loop .busy .none [.dead,.dead,(.ptr 1 0),.dead,.dead,.dead,(.ptr 3 0),.dead,.dead,.dead,.dead,.dead,.dead,.dead,.dead,.dead,.dead,.dead,.dead,.dead,.dead,.dead,.dead,.dead,.dead,.dead,.dead,.dead,.dead,.dead,.dead,.dead,.dead,.dead,.dead,.dead,.dead,.dead,.dead,.dead,.dead,.dead,.dead,.dead,.dead,.dead,.dead,.dead,.dead,.dead,.dead,.dead,.dead,.dead,.dead,.dead,.dead] #[34,35] ep du),dk,(py M),(py M),dk],tl⟩ (.call ⟨(.builtin .append),#[(.tmp 46),(.tmp 48)],#[25,25]⟩) [(46,(x1)),(48,(.vec 15 [[(.val (.int .i64 (MsgS.k M))),(.val (.int .i64 (OpS.n (MsgS.op M)))),(.val (.int .i64 (OpS.h (MsgS.op M)))),(.val (.int .u32 (OpS.i (MsgS.op M)))),(.vec 2 (OpS.l (MsgS.op M)) .none),(.vec 2 (UpS.w (MsgS.u M)) .none),(.val (.int .i64 (UpS.o (MsgS.u M)))),(.vec 1 (UpS.x (MsgS.u M)) .none),(.val (.int .u32 (UpS.h (MsgS.u M)))),(.val (.int .i64 (UpS.m (MsgS.u M)))),(.val (.bool (UpS.hm (MsgS.u M)))),(.vec 2 (UpS.n (MsgS.u M)) .none),(.val (.int .i64 (MsgS.c M))),(.val (.int .i64 (MsgS.s M))),(.vec 1 (MsgS.d M) .none)]] .full))] (.vec 15 l1 tk1) ⟨[(vV pas N n),b7,(bD ds),(.cells [x1]),b7,(.loop .busy .none [.dead,.dead,(.ptr 1 0),.dead,.dead,.dead,(.ptr 3 0),.dead,.dead,.dead,.dead,.dead,.dead,.dead,.dead,.dead,.dead,.dead,.dead,.dead,.dead,.dead,.dead,.dead,.dead,.dead,.dead,.dead,.dead,.dead,.dead,.dead,.dead,.dead,.dead,.dead,.dead,.dead,.dead,.dead,.dead,.dead,.dead,.dead,.dead,.dead,.dead,.dead,.dead,.dead,.dead,.dead,.dead,.dead,.dead,.dead,.dead] #[34,35] ep du),dk,(py M),(py M),dk],tl2⟩∧
 (aS prog (λkk=>(bif beq kk (0:Nat) then (.some pK) else .none)) (.slice 22 (.tmp 71) (.some (.tmp 72)) .none .none) [(71,(sW N)),(72,(ah (bM (an ds (0:Nat) N))))] (y73)∧
 (bp prog (λkk=>(bif beq kk (0:Nat) then (.some pK) else .none)) 0 ⟨[(vV pas N (wrap i64 (n+(1:Int)))),b7,(bD ds),(.cells [(.vec 15 l1 tk1)]),b7,(.loop .ready .none [.dead,.dead,(.ptr 1 0),.dead,.dead,.dead,(.ptr 3 0),.dead,.dead,.dead,.dead,.dead,.dead,.dead,.dead,.dead,.dead,.dead,.dead,.dead,.dead,.dead,.dead,.dead,.dead,.dead,.dead,.dead,.dead,.dead,.dead,.dead,.dead,.dead,.dead,.dead,.dead,.dead,.dead,.dead,.dead,.dead,.dead,.dead,.dead,.dead,.dead,.dead,.dead,.dead,.dead,.dead,.dead,.dead,.dead,.dead,.dead] #[34,35] ep du),dk,(py M),(py M),dk],tl2⟩ (.call ⟨(.builtin .copy),#[(.tmp 67),(.tmp 73)],#[22,22]⟩) [(67,(sW N)),(73,(y73))] (ah r) ⟨[(vV pas N (wrap i64 (n+(1:Int)))),b7,(bD ds2),(.cells [(.vec 15 l1 tk1)]),b7,(.loop .ready .none [.dead,.dead,(.ptr 1 0),.dead,.dead,.dead,(.ptr 3 0),.dead,.dead,.dead,.dead,.dead,.dead,.dead,.dead,.dead,.dead,.dead,.dead,.dead,.dead,.dead,.dead,.dead,.dead,.dead,.dead,.dead,.dead,.dead,.dead,.dead,.dead,.dead,.dead,.dead,.dead,.dead,.dead,.dead,.dead,.dead,.dead,.dead,.dead,.dead,.dead,.dead,.dead,.dead,.dead,.dead,.dead,.dead,.dead,.dead,.dead] #[34,35] ep du),dk,(py M),(py M),dk],tl2⟩∧
 (aS prog (λkk=>(bif beq kk (0:Nat) then (.some pK) else .none)) (.slice 22 (.tmp 79) .none (.some (.tmp 80)) .none) [(79,(sW N)),(80,(ah r))] (sW k2)∧
 Q .normal [(.yld 5),pM] [(vV pas k2 (wrap i64 (n+(1:Int)))),b7,(.row (ds2)),(.cells [(.vec 15 l1 tk1)]),b7,(.loop .ready .none [.dead,.dead,lO,.dead,.dead,.dead,rj,.dead,.dead,.dead,.dead,.dead,.dead,.dead,.dead,.dead,.dead,.dead,.dead,.dead,.dead,.dead,.dead,.dead,.dead,.dead,.dead,.dead,.dead,.dead,.dead,.dead,.dead,.dead,.dead,.dead,.dead,.dead,.dead,.dead,.dead,.dead,.dead,.dead,.dead,.dead,.dead,.dead,.dead,.dead,.dead,.dead,.dead,.dead,.dead,.dead,.dead] #[34,35] ep du)] (tl2) [] 84)))))))
 else (∀c:Nat,(∀s:Int,(∀d:Bs,(R4 (c) (s) (d) (an ds (0:Nat) k) (pas)→((cj prog ip (6:Nat)=cj prog ip (6:Nat))∧
 Q .ret [(.yld 5),pM] [(.cells [aF,(ah pas),aO,(ah (ofNat (c+(1:Nat)))),(ah s),(aH d),(ah n)]),b7,(.row (ds)),(.cells [x1]),b7,(.loop .done (.some (Code.exit (0:Nat))) [.dead,.dead,lO,.dead,.dead,.dead,rj,.dead,.dead,.dead,.dead,.dead,.dead,.dead,.dead,.dead,.dead,.dead,.dead,.dead,.dead,.dead,.dead,.dead,.dead,.dead,.dead,.dead,.dead,.dead,.dead,.dead,.dead,.dead,.dead,.dead,.dead,.dead,.dead,.dead,.dead,.dead,.dead,.dead,.dead,.dead,.dead,.dead,.dead,.dead,.dead,.dead,.dead,.dead,.dead,.dead,.dead] #[34,35] ep du)] (tl) [] 84)))))))))
 else ((cj prog ip (6:Nat)=cj prog ip (6:Nat))∧
 Q .ret [(.yld 5),pM] [(.cells [aF,(ah pas),aO,eR,(ah (mG (an ds (0:Nat) N))),(aH (ll (an ds (0:Nat) N))),(ah n)]),b7,(.row (ds)),(.cells [x1]),b7,(.loop .done (.some (Code.exit (0:Nat))) [.dead,.dead,lO,.dead,.dead,.dead,rj,.dead,.dead,.dead,.dead,.dead,.dead,.dead,.dead,.dead,.dead,.dead,.dead,.dead,.dead,.dead,.dead,.dead,.dead,.dead,.dead,.dead,.dead,.dead,.dead,.dead,.dead,.dead,.dead,.dead,.dead,.dead,.dead,.dead,.dead,.dead,.dead,.dead,.dead,.dead,.dead,.dead,.dead,.dead,.dead,.dead,.dead,.dead,.dead,.dead,.dead] #[34,35] ep du)] (tl) [] 84)))
 else Q (.exit 0) [(.yld 5),pM] [(vV pas N n),b7,(.row (ds)),(.cells [x1]),b7,(.loop .ready .none [.dead,.dead,lO,.dead,.dead,.dead,rj,.dead,.dead,.dead,.dead,.dead,.dead,.dead,.dead,.dead,.dead,.dead,.dead,.dead,.dead,.dead,.dead,.dead,.dead,.dead,.dead,.dead,.dead,.dead,.dead,.dead,.dead,.dead,.dead,.dead,.dead,.dead,.dead,.dead,.dead,.dead,.dead,.dead,.dead,.dead,.dead,.dead,.dead,.dead,.dead,.dead,.dead,.dead,.dead,.dead,.dead] #[34,35] ep du)] (tl) [] 84):=by kernel_rfl
--bumped 32
theorem Mm {b:Bs}{pas:Int}{c s:Int}{d:Bs}(h:fa b pas=.inl (c,s,d)):∃k:Nat,c=((k+1:Nat):Int):=by
 unfold fa at h
 have go:∀{q:Int × Int × Bs},(q.1=1∨q.1=2∨q.1=3)→q=(c,s,d)→∃k:Nat,c=((k+1:Nat):Int):=by
  rintro q hq rfl
  rcases hq with h | h | h
  ·exact ⟨0,h⟩
  ·exact ⟨1,h⟩
  ·exact ⟨2,h⟩
 cases h1:dm b<;>rw [h1] at h<;>simp only [cond_true,cond_false] at h
 ·exact go (.inl rfl) (Sum.inl.inj h)
 split at h
 ·exact go (.inl rfl) (Sum.inl.inj h)
 split at h
 ·exact go (.inl rfl) (Sum.inl.inj h)
 split at h
 ·cases h2:iG (b.drop 19) pas<;>rw [h2] at h<;>simp only [cond_true,cond_false] at h
  ·exact go (.inr (.inl rfl)) (Sum.inl.inj h)
  ·cases h
 split at h
 ·cases h2:jg (b.drop 19)<;>rw [h2] at h<;>simp only [cond_true,cond_false] at h
  ·exact go (.inr (.inr rfl)) (Sum.inl.inj h)
  ·cases h
 split at h
 ·cases h2:jU (b.drop 19)<;>rw [h2] at h<;>simp only [cond_true,cond_false] at h
  ·exact go (.inl rfl) (Sum.inl.inj h)
  ·cases h
 cases h
theorem R5:∀ro ys T K,Ni ro ys T K→VCx prog aM ro E6 ys T K:=by
 intro ro ys T K hw
 unfold Ni at hw
 split at hw
 ·split at hw
  ·rename_i k off n pas _ cs ho
   obtain ⟨⟨hro,h,hn,rfl⟩,hk⟩:=hw
   refine VCx.atRow bc (le_of_ble_eq_true hro) ho h.ren (E5 pas h.is) (by simp [aw,TV.ren,aL]) (RT h (le_of_ble_eq_true hn) pas) ?_
   unfold xO
   cases hP:fa (an cs 0 n) pas with
   |inl p=>
    obtain ⟨c,s,d⟩:=p
    obtain ⟨j,rfl⟩:=Mm hP
    rw [show tG (an cs 0 n) pas=false by unfold tG;rw [hP],cond_false] at hk
    exact hk j s d hP
   |inr M=>
    rw [show tG (an cs 0 n) pas=true by unfold tG;rw [hP],cond_true] at hk
    exact hk M hP
  ·exact hw.elim
 ·exact hw.elim
theorem Mn {ds:List TV}{N n:Nat}(h:RwOk ds 0 N)(hn:n≤N):RwOk (bs ds 0 (an ds n (N-n)).flatten) 0 (N-n)∧an (bs ds 0 (an ds n (N-n)).flatten) 0 (N-n)=(an ds 0 N).drop n:=by
 have hd:=Pj h hn
 rw [zero_add] at hd
 rw [hd]
 obtain ⟨h1,h2,l,rfl,hz⟩:=h
 rw [length_map] at h1 h2
 have hl:((l.drop n).take (N-n)).length=N-n:=by rw [List.length_take,length_drop];omega
 have e0:an (l.map eM) n (N-n)=bV ((l.drop n).take (N-n)):=nq (by omega)
 have e1:bs (l.map eM) 0 (an (l.map eM) n (N-n)).flatten=((l.drop n).take (N-n)++l.drop (N-n)).map eM:=by
  rw [e0,uS]
  simp only [bs,List.take_zero,nil_append,length_map,hl,zero_add,List.map_append,List.map_drop]
 have hl2:((l.drop n).take (N-n)++l.drop (N-n)).length=l.length:=by rw [length_append,hl,length_drop];omega
 rw [e1]
 refine ⟨⟨by rw [length_map,hl2];omega,by rw [length_map,hl2];exact h2,_,rfl,λz hz2=> ?_⟩,?_⟩
 ·rcases mem_append.1 hz2 with q | q
  ·exact hz z (List.mem_of_mem_drop (List.mem_of_mem_take q))
  ·exact hz z (List.mem_of_mem_drop q)
 ·rw [nq (by rw [hl2];omega),e0,List.drop_zero,List.take_append_of_le_length (by rw [hl];exact le_refl _),List.take_of_length_le (by rw [hl];exact le_refl _)]
theorem R6:∀ro ys T K,JH ro ys T K→VCx prog aM ro vz ys T K:=by
 intro ro ys T K hw
 unfold JH at hw
 split at hw
 ·rename_i a tok1 b tok2 tok
  obtain ⟨⟨ha,hb,hs⟩,hk⟩:=hw
  have hs:=le_of_ble_eq_true hs
  have hx:aw (aL []) (aL []) [.vec 1 [[.vec 1 a tok1],[.vec 1 b tok2]] tok]= [.vec 1 [[.vec 1 a (tok1.ren (aL []) (aL []))],[.vec 1 b (tok2.ren (aL []) (aL []))]] (tok.ren (aL []) (aL []))]:=by
   simp only [aw,br,TV.ren,ha.ren,hb.ren]
  refine VCx.anyG ?_
  by_cases h0:a.length+b.length=0
  ·obtain rfl:a= []:=List.eq_nil_of_length_eq_zero (by omega)
   obtain rfl:b= []:=List.eq_nil_of_length_eq_zero (by omega)
   rw [show beq (([]:Bs).length+([]:Bs).length) 0=true from rfl,cond_true] at hk
   exact VCx.liftPure aV PC hx (λ_ _=>rfl) hk
  ·have hbq:beq (a.length+b.length) 0=false:=by
    cases h:beq (a.length+b.length) 0
    ·rfl
    ·exact absurd (eq_of_beq_eq_true h) h0
   rw [hbq,cond_false] at hk
   have hW:RwOk (a++b).flatten 0 (a++b).length:=(zj (IsB.append ha hb (by rw [length_append];exact hs))).1
   refine (VCx.lift (T:=T) [] [] aV nodup_nil nodup_nil (by simp) (by simp) (by simp) hx (by rw [VT.give_nil];exact PA ha hb hs (by omega)) (λ_ _ _=>⟨zero_le _,zero_le _⟩)).mono ?_
   rintro z T' ⟨x,T'',⟨rfl,rfl⟩,rfl,rfl⟩
   rw [VT.back_nil]
   simp only [map_cons,map_nil,hW.ren,append_nil]
   simpa [TV.ren,aJ] using hk
 ·exact hw.elim
def PxWf (l:Bs):Prop:=∃p:List (Int × Int),l=p.map aK∧p.length≤64000000
def IvWf (x:Bs):Prop:=∃l:List Int,x=iV l∧l.length≤64000000
def CpWf (l:Bs):Prop:=∃c:List (Int × Bs),l=c.map fT∧AllB c∧c.length≤64000000
def OpWf (o:OpS):Prop:=CpWf o.l
def UpWf (u:UpS):Prop:=PxWf u.w∧PxWf u.n∧IvWf u.x
def MsWf (m:MsgS):Prop:=OpWf m.op∧UpWf m.u∧IsB m.d
def R7 (l l':List TV):Prop:=l=l'∧∃(c s:Int) (d:Bs),IsB d∧l= [.val (.int .i64 c),.val (.int .i64 s),.vec 1 d .none]
theorem PxWf.nil:PxWf []:=⟨[],rfl,zero_le _⟩
theorem IvWf.nil:IvWf []:=⟨[],rfl,zero_le _⟩
theorem CpWf.nil:CpWf []:=⟨[],rfl,.nil,zero_le _⟩
theorem x3:UpWf kK:=⟨.nil,.nil,.nil⟩
theorem x4:OpWf E2:=CpWf.nil
theorem Nj:MsWf m0:=⟨x4,x3,.nil⟩
theorem PxWf.ren {l:Bs}(h:PxWf l)(f g:Nat→Option Nat):br f g l=l:=by
 obtain ⟨p,rfl,_⟩:=h
 exact eS f g p
theorem IvWf.ren {l:Bs}(h:IvWf l)(f g:Nat→Option Nat):br f g l=l:=by
 obtain ⟨p,rfl,_⟩:=h
 exact dW f g p
theorem CpWf.ren {l:Bs}(h:CpWf l)(f g:Nat→Option Nat):br f g l=l:=by
 obtain ⟨p,rfl,h2,_⟩:=h
 exact ku f g h2
theorem OpWf.ren {o:OpS}(h:OpWf o)(f g:Nat→Option Nat):aw f g o.cells=o.cells:=by
 simp only [OpS.cells,aw,TV.ren,CpWf.ren h,Tok.ren]
theorem UpWf.ren {u:UpS}(h:UpWf u)(f g:Nat→Option Nat):aw f g u.cells=u.cells:=by
 simp only [UpS.cells,aw,TV.ren,h.1.ren,h.2.1.ren,h.2.2.ren,Tok.ren]
theorem MsWf.ren {m:MsgS}(h:MsWf m):Mb m:=qx h.1.ren h.2.1.ren h.2.2.ren
theorem wm:∀(k:Nat) (b:Bs) (acc l:List (Int × Int)),kp k b acc=some l→l.length≤acc.length+b.length
 | 0,_,_,_,h=>by cases h
 |k+1,b,acc,l,h=>by
  unfold kp at h
  by_cases hl:bC b 0>0
  ·rw [decide_eq_true hl] at h
   cases h2:bQ b 0<;>rw [h2] at h
   ·cases h
   ·have h3:=wm k _ _ _ h
    have h4:=xq hl
    simp only [length_append,length_cons,length_nil] at h3
    omega
  ·rw [decide_eq_false hl] at h
   injection h with h;subst h;omega
theorem JI {b:Bs}(hb:b.length≤32000000):PxWf (aX b):=by
 refine ⟨(vn b).getD [],rfl,?_⟩
 cases h:vn b with
 |none=>exact zero_le _
 |some l=>have:=wm _ _ _ _ h;simp only [length_nil] at this;simp only [getD_some];omega
theorem Fe:∀(k:Nat) (b:Bs) (l r:List Int),l.length≤16→iE k b l=some r→r.length≤16
 | 0,_,_,_,_,h=>by cases h
 |k+1,b,l,r,hl,h=>by
  unfold iE at h
  cases h1:decide (bC b 0>0)<;>rw [h1] at h
  ·injection h with h;exact h▸hl
  ·cases h2:m6 b<;>rw [h2] at h
   ·cases h
   ·simp only [cond_true] at h
    split at h
    ·rename_i b' l' he
     exact Fe k b' l' r (CO _ _ _ _ _ hl he) h
    ·cases h
theorem PD (v:Bs):IvWf (ru v):=by
 refine ⟨EP v,rfl,?_⟩
 unfold EP
 cases h:ox v with
 |none=>exact zero_le _
 |some l=>have:=Fe _ _ [] _ (zero_le 16) h;simp only [getD_some];omega
def JJ (x:TV):Prop:=x=.val (.slice none 0 0)∨∃l,x=.vec 1 l .none∧IvWf l
theorem R8 {a:AtS}(h:JJ a.x)(t:Int)(v:Bs):JJ (a.put t v).x:=by
 unfold AtS.put
 split
 ·exact h
 split
 ·exact .inr ⟨_,rfl,PD v⟩
 split
 ·exact h
 split
 ·exact h
 ·exact h
theorem Ff:∀(l:List ik) (f:Nat→Bool) (a:AtS),JJ a.x→∀a' f',g7 l f a=.inr (a',f')→JJ a'.x
 |[],f,a,h,a',f',e=>by injection e with e;injection e with e1 e2;exact e1▸h
 | (fl,t,v)::l,f,a,h,a',f',e=>by
  unfold g7 at e
  cases hf:f t.toNat<;>rw [hf] at e
  ·simp only [cond_false] at e
   split at e
   ·exact Ff l _ _ (R8 h t v) a' f' e
   ·split at e<;>cases e
  ·cases e
theorem PE (b:Bs):IvWf (iF b):=by
 have key:∀a:AtS,JJ a.x→∀l,a.fix.x=.vec 1 l .none→IvWf l:=by
  intro a ha l hl
  unfold AtS.fix at hl
  simp only at hl
  rcases ha with h | ⟨l',h,hw⟩<;>rw [h] at hl<;>simp only at hl
  ·injection hl with _ hl;subst hl;exact .nil
  ·injection hl with _ hl;subst hl;exact hw
 have hx:=Jh b
 unfold mR at hx
 split at hx
 ·rename_i a h
  refine key a ?_ _ hx
  unfold im at h
  cases ho:jW b<;>rw [ho] at h
  ·cases h
  ·simp only [cond_true] at h
   split at h
   ·cases h
   ·rename_i a' f' he
    have:=Ff _ _ _ (.inl rfl) _ _ he
    unfold rz at h
    cases g1:f' 1<;>cases g2:f' 2<;>cases g3:f' 3<;>simp only [g1,g2,g3,cond_true,cond_false] at h<;>first | (cases h;done) | (injection h with h;exact h▸this)
 ·exact key vv (.inl rfl) _ hx
theorem R9 {b:Bs}(hb:IsB b):UpWf (lm b):=by
 have hw:PxWf (aX (gJ b)):=JI (Jk hb).small
 have hn:PxWf (aX (dQ b)):=JI (Jl hb).small
 have hx:IvWf (iF (cm b)):=PE _
 have e1:UpWf {kK with w:=aX (gJ b),n:=aX (dQ b)}:=⟨hw,hn,.nil⟩
 have e2:UpWf ⟨aX (gJ b),mS (cm b),iF (cm b),mT (cm b),mU (cm b),mV (cm b),aX (dQ b)⟩:=⟨hw,hn,hx⟩
 unfold lm
 split
 ·rename_i u h
  unfold iL at h
  split at h
  ·cases h
  cases g1:gk (gJ b)<;>simp only [g1,cond_true,cond_false] at h
  ·cases h
  cases g2:gk (dQ b)<;>simp only [g2,cond_true,cond_false] at h
  ·cases h
  split at h
  ·injection h with h;exact h▸e1
  cases g3:g8 (cm b)<;>simp only [g3,cond_true,cond_false] at h
  ·split at h
   ·cases h
   split at h
   ·injection h with h;exact h▸e1
   ·cases h
  ·split at h
   ·injection h with h;exact h▸e2
   ·injection h with h;exact h▸e1
 ·exact x3
theorem Dn:∀(k:Nat) (b:Bs) (e:Int) (acc l:List (Int × Bs)),IsB b→kr k b e acc=.ok l→l.length≤acc.length+b.length
 | 0,_,_,_,_,_,h=>by cases h
 |k+1,b,e,acc,l,hb,h=>by
  unfold kr at h
  by_cases hl:bC b e>0
  ·rw [decide_eq_true hl] at h
   cases h2:decide (lz b e=0)<;>rw [h2] at h
   ·cases h
   ·cases h3:decide (mE b e=2)<;>rw [h3] at h
    ·cases h
    ·cases h4:xt (eY b e) 0<;>rw [h4] at h
     ·cases h
     ·have h5:=Dn k _ _ _ _ (tg hb) h
      have h6:=mF hl
      have h7:=(th 0 (tf (e:=e) hb)).2.2
      simp only [length_append] at h5
      omega
  ·rw [decide_eq_false hl] at h
   injection h with h;subst h;omega
theorem Sa {b:Bs}(hb:IsB b)(e:Int):CpWf (gl b e):=by
 cases h:td b e with
 |ok l=>
  rw [(xv h).2]
  have h2:=Dn _ _ _ _ _ hb h
  have h3:=hb.small
  simp only [length_nil] at h2
  exact ⟨l,rfl,yZ _ _ _ _ hb .nil l h,by omega⟩
 |error s=>rw [(uK h).2.1];exact .nil
theorem Sb {b:Bs}(pas:Int)(hb:IsB b):OpWf (tw b pas):=by
 have key:(∃s d,jV b pas=dN s d)∨(∃n h i l,jV b pas=qr n h i l∧CpWf l):=by
  unfold jV
  split
  ·exact .inl ⟨_,_,rfl⟩
  split
  ·exact .inl ⟨_,_,rfl⟩
  unfold xw fU
  split
  ·exact .inl ⟨_,_,rfl⟩
  split
  ·exact .inl ⟨_,_,rfl⟩
  split
  ·exact .inl ⟨_,_,rfl⟩
  split
  ·exact .inl ⟨_,_,rfl⟩
  split
  ·exact .inl ⟨_,_,rfl⟩
  cases h:gI _ _
  ·exact .inl ⟨_,_,rfl⟩
  ·exact .inr ⟨_,_,_,_,rfl,Sa (aC (aC (aC (aC (aC hb))))) _⟩
 unfold tw r6
 rcases key with ⟨s,d,h⟩ | ⟨n,hh,i,l,h,h2⟩<;>rw [h]
 ·exact x4
 ·exact h2
def r8 (b:Bs)(pas:Int):MsgS:=match fa b pas with
 | .inr m=>m
 | .inl _=>m0
def Sc (b:Bs)(pas:Int):Bs:=match fa b pas with
 | .inr _=> []
 | .inl p=>p.2.2
theorem Sd {b:Bs}{pas:Int}(hb:IsB b):MsWf (r8 b pas):=by
 have hd:=hb.drop 19
 unfold r8
 split
 ·rename_i m h
  unfold fa at h
  cases h1:dm b<;>rw [h1] at h<;>simp only [cond_true,cond_false] at h
  ·cases h
  split at h
  ·cases h
  split at h
  ·cases h
  split at h
  ·cases h2:iG (b.drop 19) pas<;>rw [h2] at h<;>simp only [cond_true,cond_false] at h
   ·cases h
   ·injection h with h;subst h;exact ⟨Sb pas hd,x3,.nil⟩
  split at h
  ·cases h2:jg (b.drop 19)<;>rw [h2] at h<;>simp only [cond_true,cond_false] at h
   ·cases h
   ·injection h with h;subst h;exact ⟨x4,R9 hd,.nil⟩
  split at h
  ·cases h2:jU (b.drop 19)<;>rw [h2] at h<;>simp only [cond_true,cond_false] at h
   ·cases h
   ·injection h with h;subst h;exact ⟨x4,x3,hd.drop 2⟩
  ·injection h with h;subst h;exact Nj
 ·exact Nj
theorem Wi {z:Int}(h0:0≤z)(h1:z<256):IsB [bT z]:=⟨⟨[z],rfl,λy hy=>by obtain rfl:=mem_singleton.1 hy;exact ⟨h0,h1⟩⟩,by simp⟩
theorem PF {b:Bs}(hb:IsB b):IsB (je b):=by
 have key:∀(l:List ik) (f':Nat→Bool) (a:AtS),C2 l→∀s d,g7 l f' a=.inl (s,d)→IsB d:=by
  intro l
  induction l with
  |nil=>intro f' a _ s d e;cases e
  |cons p l ih=>
   obtain ⟨fl,t,v⟩:=p
   intro f' a hl s d e
   unfold g7 at e
   obtain ⟨_,_,hv,hvl⟩:=hl _ mem_cons_self
   cases hf:f' t.toNat<;>rw [hf] at e
   ·simp only [cond_false] at e
    split at e
    ·exact ih _ _ (λp hp=>hl p (mem_cons_of_mem _ hp)) s d e
    ·split at e
     ·injection e with e;injection e with e1 e2;rw [←e2];exact .nil
     ·injection e with e;injection e with e1 e2;rw [←e2];exact qv hv hvl
   ·injection e with e;injection e with e1 e2;rw [←e2];exact .nil
 unfold je
 split
 ·exact .nil
 ·rename_i e h
  obtain ⟨s,d⟩:=e
  unfold im at h
  cases ho:jW b<;>rw [ho] at h
  ·injection h with h;injection h with h1 h2;simp only;rw [←h2];exact .nil
  ·simp only [cond_true] at h
   split at h
   ·rename_i e he
    injection h with h;subst h
    exact key _ _ _ (za hb) s d he
   ·rename_i a f' he
    unfold rz at h
    cases g1:f' 1<;>cases g2:f' 2<;>cases g3:f' 3<;>simp only [g1,g2,g3,cond_true,cond_false] at h<;>first | (cases h;done) | (injection h with h;injection h with e1 e2;simp only;rw [←e2];exact Wi (by decide) (by decide))
theorem PG {b:Bs}(hb:IsB b):IsB (lU b):=by
 have hd:=PF (xJ hb)
 unfold lU
 split
 ·exact .nil
 ·rename_i e h
  obtain ⟨s,d⟩:=e
  simp only
  unfold iL at h
  split at h
  ·injection h with h;injection h with _ h;rw [←h];exact .nil
  cases g1:gk (gJ b)<;>simp only [g1,cond_true,cond_false] at h
  ·injection h with h;injection h with _ h;rw [←h];exact .nil
  cases g2:gk (dQ b)<;>simp only [g2,cond_true,cond_false] at h
  ·injection h with h;injection h with _ h;rw [←h];exact .nil
  split at h
  ·cases h
  cases g3:g8 (cm b)<;>simp only [g3,cond_true,cond_false] at h
  ·split at h
   ·injection h with h;injection h with _ h;rw [←h];exact hd
   split at h
   ·cases h
   ·injection h with h;injection h with _ h;rw [←h];exact hd
  ·split at h<;>cases h
theorem PH {b:Bs}(pas:Int):IsB (lT b pas):=by
 have i2:IsB [bT 0,bT 4]:=⟨⟨[0,4],rfl,λy hy=>by simp at hy;omega⟩,by simp⟩
 have key:(∃s d,jV b pas=dN s d∧IsB d)∨(∃n h i l,jV b pas=qr n h i l):=by
  unfold jV
  split
  ·exact .inl ⟨_,_,rfl,.nil⟩
  split
  ·exact .inl ⟨_,_,rfl,i2⟩
  unfold xw fU
  split
  ·exact .inl ⟨_,_,rfl,.nil⟩
  split
  ·exact .inl ⟨_,_,rfl,.nil⟩
  split
  ·exact .inl ⟨_,_,rfl,.nil⟩
  split
  ·exact .inl ⟨_,_,rfl,.nil⟩
  split
  ·exact .inl ⟨_,_,rfl,.nil⟩
  cases h:gI _ _
  ·exact .inl ⟨_,_,rfl,.nil⟩
  ·exact .inr ⟨_,_,_,_,rfl⟩
 unfold lT r6
 rcases key with ⟨s,d,h,h2⟩ | ⟨n,hh,i,l,h⟩<;>rw [h]
 ·exact h2
 ·exact .nil
theorem Se {b:Bs}{pas:Int}(hb:IsB b):IsB (Sc b pas):=by
 have hd:=hb.drop 19
 have hz:IsB (m9 b):=(hb.drop 16).take 2
 unfold Sc
 split
 ·exact .nil
 ·rename_i e h
  obtain ⟨c,s,d⟩:=e
  simp only
  unfold fa at h
  cases h1:dm b<;>rw [h1] at h<;>simp only [cond_true,cond_false] at h
  ·injection h with h;injection h with _ h;injection h with _ h;rw [←h];exact xK hb
  split at h
  ·injection h with h;injection h with _ h;injection h with _ h;rw [←h];exact .nil
  split at h
  ·injection h with h;injection h with _ h;injection h with _ h;rw [←h];exact hz
  split at h
  ·cases h2:iG (b.drop 19) pas<;>rw [h2] at h<;>simp only [cond_true,cond_false] at h
   ·injection h with h;injection h with _ h;injection h with _ h;rw [←h];exact PH pas
   ·cases h
  split at h
  ·cases h2:jg (b.drop 19)<;>rw [h2] at h<;>simp only [cond_true,cond_false] at h
   ·injection h with h;injection h with _ h;injection h with _ h;rw [←h];exact PG hd
   ·cases h
  split at h
  ·cases h2:jU (b.drop 19)<;>rw [h2] at h<;>simp only [cond_true,cond_false] at h
   ·injection h with h;injection h with _ h;injection h with _ h;rw [←h];exact hz
   ·cases h
  ·cases h
--bumped 32
def pA:Nat→Bs→Int→List MsgS × Bs × Option (Nat × Int × Bs)
 | 0,w,_=>([],w,none)
 |k+1,w,pas=>if w.length<19 then ([],w,none) else bif dm w then
   (if bM w>w.length then ([],w,none) else match fa (w.take (bM w).toNat) pas with
    | .inl (c,s,d)=>([],[],some (c.toNat-1,s,d))
    | .inr M=>(M::(pA k (w.drop (bM w).toNat) pas).1,(pA k (w.drop (bM w).toNat) pas).2))
  else ([],[],some (0,mG w,ll w))
def ba (w:Bs)(pas:Int):List MsgS × Bs × Option (Nat × Int × Bs):=pA (w.length+1) w pas
theorem Do:∀(k m:Nat) (w:Bs) (pas:Int),w.length<k→w.length<m→pA k w pas=pA m w pas
 | 0,_,_,_,h,_=>absurd h (not_lt_zero _)
 |_+1,0,_,_,_,h=>absurd h (not_lt_zero _)
 |k+1,m+1,w,pas,h1,h2=>by
  simp only [pA]
  split
  ·rfl
  ·rename_i hl
   cases hh:dm w
   ·rfl
   ·simp only [cond_true]
    split
    ·rfl
    ·have h3:=(rD hl hh).2.1
     have e:pA k (w.drop (bM w).toNat) pas=pA m (w.drop (bM w).toNat) pas:=Do k m _ _ (by rw [length_drop];omega) (by rw [length_drop];omega)
     rw [e]
theorem fu {w:Bs}(pas:Int)(h:w.length<19):ba w pas=([],w,none):=by
 unfold ba;simp only [pA,if_pos h]
theorem nK {w:Bs}(pas:Int)(h:¬w.length<19)(h1:dm w=false):ba w pas=([],[],some (0,mG w,ll w)):=by
 unfold ba;simp only [pA,if_neg h,h1,cond_false]
theorem oH {w:Bs}(pas:Int)(h:¬w.length<19)(h1:dm w=true)(h2:bM w>w.length):ba w pas=([],w,none):=by
 unfold ba;simp only [pA,if_neg h,h1,cond_true,if_pos h2]
theorem kN {w:Bs}{pas c s:Int}{d:Bs}(h:¬w.length<19)(h1:dm w=true)(h2:¬bM w>w.length)(h3:fa (w.take (bM w).toNat) pas=.inl (c,s,d)):ba w pas=([],[],some (c.toNat-1,s,d)):=by
 unfold ba;simp only [pA,if_neg h,h1,cond_true,if_neg h2,h3]
theorem oI {w:Bs}{pas:Int}{M:MsgS}(h:¬w.length<19)(h1:dm w=true)(h2:¬bM w>w.length)(h3:fa (w.take (bM w).toNat) pas=.inr M):ba w pas=(M::(ba (w.drop (bM w).toNat) pas).1,(ba (w.drop (bM w).toNat) pas).2):=by
 have h4:=(rD h h1).2.1
 have e:pA w.length (w.drop (bM w).toNat) pas=ba (w.drop (bM w).toNat) pas:=Do _ _ _ _ (by rw [length_drop];omega) (Nat.lt_succ_self _)
 rw [←e]
 unfold ba
 simp only [pA,if_neg h,h1,cond_true,if_neg h2,h3]
theorem Dp {w b:Bs}{n m:Nat}(h:n≤w.length):(w++b).take n=w.take n:=List.take_append_of_le_length h
theorem mX {w b:Bs}{i n:Nat}(h:i+n≤w.length):((w++b).drop i).take n=(w.drop i).take n:=by
 rw [List.drop_append_of_le_length (by omega),List.take_append_of_le_length (by rw [length_drop];omega)]
theorem PI {w:Bs}(b:Bs)(h:¬w.length<19):oA (w++b)=oA w:=by
 have h2:¬(w++b).length<19:=by rw [length_append];omega
 have e1:jf (w++b)=jf w:=by unfold jf;rw [Dp (m:=0) (by omega)]
 have e2:iM (w++b)=iM w:=by unfold iM dD;rw [mX (by show 16+2≤_;omega)]
 have e3:m9 (w++b)=m9 w:=by unfold m9;rw [mX (by omega)]
 have e4:C7 (w++b)=C7 w:=by unfold C7;rw [mX (by omega)]
 have e5:pt (w++b)=pt w:=by
  unfold pt
  congr 1
  rw [List.drop_append_of_le_length (by omega)]
  have:0<(w.drop 18).length:=by rw [length_drop];omega
  cases hc:w.drop 18 with
  |nil=>rw [hc] at this;exact absurd this (not_lt_zero _)
  |cons x l=>rfl
 rw [rB h,rB h2,e1,e2,e3,e4,e5]
theorem Fg (pas:Int)(b:Bs):∀(n:Nat) (w:Bs),w.length≤n→ba (w++b) pas=match (ba w pas).2.2 with
  |none=>((ba w pas).1++(ba ((ba w pas).2.1++b) pas).1,(ba ((ba w pas).2.1++b) pas).2)
  |some _=>ba w pas:=by
 intro n
 induction n with
 |zero=>
  intro w hw
  have hl:w.length<19:=by omega
  rw [fu pas hl];rfl
 |succ n ih=>
  intro w hw
  by_cases hl:w.length<19
  ·rw [fu pas hl];rfl
  have hP:=PI b hl
  have hl2:¬(w++b).length<19:=by rw [length_append];omega
  have a1:dm (w++b)=dm w:=by unfold dm;rw [hP]
  have a2:bM (w++b)=bM w:=by unfold bM;rw [hP]
  have a3:mG (w++b)=mG w:=by unfold mG;rw [hP]
  have a4:ll (w++b)=ll w:=by unfold ll;rw [hP]
  cases h1:dm w
  ·rw [nK pas hl h1,nK pas hl2 (a1.trans h1),a3,a4]
  by_cases h2:bM w>w.length
  ·rw [oH pas hl h1 h2];rfl
  have h22:¬bM (w++b)>(w++b).length:=by rw [a2,length_append];omega
  have ht:(w++b).take (bM (w++b)).toNat=w.take (bM w).toNat:=by rw [a2,Dp (m:=0) (by omega)]
  cases h3:fa (w.take (bM w).toNat) pas with
  |inl p=>
   obtain ⟨c,s,d⟩:=p
   rw [kN hl h1 h2 h3,kN hl2 (a1.trans h1) h22 (ht▸h3)]
  |inr M=>
   have h4:=(rD hl h1).2.1
   have hd:(w++b).drop (bM (w++b)).toNat=w.drop (bM w).toNat++b:=by rw [a2,List.drop_append_of_le_length (by omega)]
   rw [oI hl2 (a1.trans h1) h22 (ht▸h3),hd,oI hl h1 h2 h3]
   have hi:=ih (w.drop (bM w).toNat) (by rw [length_drop];omega)
   rw [hi]
   cases h5:(ba (w.drop (bM w).toNat) pas).2.2<;>rfl
theorem Dq {w b:Bs}{pas:Int}(h:(ba w pas).2.2=none):ba (w++b) pas=((ba w pas).1++(ba ((ba w pas).2.1++b) pas).1,(ba ((ba w pas).2.1++b) pas).2):=by
 have:=Fg pas b _ w (le_refl _)
 rw [h] at this;exact this
theorem Dr {w b:Bs}{pas:Int}{f:Nat × Int × Bs}(h:(ba w pas).2.2=some f):ba (w++b) pas=ba w pas:=by
 have:=Fg pas b _ w (le_refl _)
 rw [h] at this;exact this
theorem JK {b:Bs}{pas:Int}{M:MsgS}(hb:IsB b)(h:fa b pas=.inr M):MsWf M:=by
 have:=Sd (pas:=pas) hb
 unfold r8 at this;rw [h] at this;exact this
theorem JL {b:Bs}{pas c s:Int}{d:Bs}(hb:IsB b)(h:fa b pas=.inl (c,s,d)):IsB d:=by
 have:=Se (pas:=pas) hb
 unfold Sc at this;rw [h] at this;exact this
theorem qE (pas:Int):∀(n:Nat) (w:Bs),w.length≤n→IsB w→IsB (ba w pas).2.1∧(ba w pas).1.length+(ba w pas).2.1.length≤w.length∧(∀M∈(ba w pas).1,MsWf M)∧(∀c s d,(ba w pas).2.2=some (c,s,d)→IsB d∧(ba w pas).2.1= []):=by
 intro n
 induction n with
 |zero=>
  intro w hw hb
  rw [fu pas (by omega)]
  exact ⟨hb,by simp,by simp,λ_ _ _ h=>by cases h⟩
 |succ n ih=>
  intro w hw hb
  by_cases hl:w.length<19
  ·rw [fu pas hl]
   exact ⟨hb,by simp,by simp,λ_ _ _ h=>by cases h⟩
  cases h1:dm w
  ·rw [nK pas hl h1]
   exact ⟨.nil,by simp,by simp,λc s d h=>by cases h;exact ⟨xK hb,rfl⟩⟩
  by_cases h2:bM w>w.length
  ·rw [oH pas hl h1 h2]
   exact ⟨hb,by simp,by simp,λ_ _ _ h=>by cases h⟩
  cases h3:fa (w.take (bM w).toNat) pas with
  |inl p=>
   obtain ⟨c,s,d⟩:=p
   rw [kN hl h1 h2 h3]
   refine ⟨.nil,by simp,by simp,λc' s' d' h=> ?_⟩
   cases h
   exact ⟨JL (hb.take _) h3,rfl⟩
  |inr M=>
   have h4:=(rD hl h1).2.1
   have hi:=ih (w.drop (bM w).toNat) (by rw [length_drop];omega) (hb.drop _)
   rw [oI hl h1 h2 h3]
   refine ⟨hi.1,?_,?_,hi.2.2.2⟩
   ·have:=hi.2.1
    rw [length_drop] at this
    simp only [length_cons];omega
   ·intro m hm
    rcases mem_cons.1 hm with rfl | hm
    ·exact JK (hb.take _) h3
    ·exact hi.2.2.1 m hm
section
variable {P:Program}{G:aP}
theorem Hy {ro:Nat}{T:VT}{t e tx:TypeId}{d x:Operand}{l:List (Nat × TV)}{inf:TypeInfo}{es:List (List TV)}{id off m:Nat}{cs:List TV}(ht:P.underlying t=some (.slice e))(hi:P.info? e=some inf)(hsl:fD (P.underlying tx)=true)
  (hs:aA G l d=.row inf.size id off m) (ho:T.objs[id]?=some (.row cs)) (hr:bL T inf.size (aA G l x)=some es) (h1:es.length≤m) (h2:off*inf.size+es.flatten.length≤cs.length) (hro:ro≤id):
  bp P G ro T (.call ⟨.builtin .copy,#[d,x],#[t,tx]⟩) l (.val (.int .i64 es.length)) {T with objs:=T.objs.set id (.row (bs cs (off*inf.size) es.flatten))}:=by
 refine .mk ?_
 have a1:aW P (.call ⟨.builtin .copy,#[d,x],#[t,tx]⟩) (aA G l)=none:=by simp [aW,cN]
 have a2:aY P T (.call ⟨.builtin .copy,#[d,x],#[t,tx]⟩) (aA G l)=none:=by simp [aY,cM,gv]
 have a4:sA P ro T t tx (.row inf.size id off m) (aA G l x)=none:=by simp [sA,ht]
 have a3:sy P ro T t tx (.row inf.size id off m) (aA G l x)=some (.val (.int .i64 es.length),{T with objs:=T.objs.set id (.row (bs cs (off*inf.size) es.flatten))}):=by
  unfold sy
  simp only [ht,hi,ho,hr,beq_refl,ble_eq_true_of_le h1,ble_eq_true_of_le h2,ble_eq_true_of_le hro,hsl,Bool.and_self,cond_true]
 simp only [dZ,a1,a2,gR,hs,a4,a3]
theorem JM {t e:TypeId}{x i:Operand}{l:List (Nat × TV)}{inf:TypeInfo}{id off n:Nat}{k:IntKind}{z:Int}(ht:P.underlying t=some (.slice e))(hi:P.info? e=some inf)
  (hx:aA G l x=.row inf.size id off n) (hz:aA G l i=.val (.int k z)) (h0:0≤z) (h1:z.toNat≤n):aS P G (.slice t x none (some i) none) l (.row inf.size id off z.toNat):=by
 refine ⟨?_⟩
 have hhi:nU n (some (aA G l i))=some z.toNat:=by simp [nU,ek,hz,h0]
 have hR:fw P t (aA G l x) none (some (aA G l i)) none=some (.row inf.size id off z.toNat):=by
  rw [hx]
  simp only [fw,ht,hi,dS,hhi,beq_refl,ble_eq_true_of_le h1,ble_eq_true_of_le (zero_le z.toNat),Bool.and_self,cond_true]
 simp [aW,gB,hR]
end
def xL:List MsgS→TV
 |[]=>.val (.slice none 0 0)
 |M::l=>.vec 15 ((M::l).map MsgS.cells) (.tail 0 (M::l).length)
def tL:List MsgS→bq
 |[]=> []
 |M::l=> [((M::l).length,15,true)]
def gi (l:List MsgS):Prop:=∀M∈l,MsWf M
theorem JN (l:List MsgS):(tL l).length≤1:=by cases l<;>simp [tL]
theorem Sf (l:List MsgS)(M:MsgS):xL (l++ [M])=.vec 15 ((l++ [M]).map MsgS.cells) (.tail 0 (l++ [M]).length):=by cases l<;>rfl
theorem Sg (l:List MsgS)(M:MsgS):tL (l++ [M])= [((l++ [M]).length,15,true)]:=by cases l<;>rfl
theorem hU {l:List MsgS}(h:gi l)(f g:Nat→Option Nat):br f g (l.map MsgS.cells)=l.map MsgS.cells:=by
 induction l with
 |nil=>rfl
 |cons M l ih=>rw [map_cons,br,ih (λm hm=>h m (mem_cons_of_mem _ hm)),(h M mem_cons_self).ren]
theorem Ds {l:List MsgS}(h:gi l)(f:Nat→Option Nat):(xL l).ren f (ap 1)=xL l:=by
 cases l with
 |nil=>rfl
 |cons M l=>simp only [xL,TV.ren,hU h,Tok.ren];rfl
theorem PJ (l:List MsgS):(tL l).take 1=tL l:=List.take_of_length_le (JN l)
theorem wo:∃(inf:TypeInfo) (z:Value),prog.info? 77=some inf∧inf.size=15∧inf.bytes+1≤1000∧inf.zero=some z∧z.cells.size=15:=
 ⟨(prog.info? 77).getD default,((prog.info? 77).getD default).zero.getD default,by kernel_rfl,by kernel_rfl,le_of_ble_eq_true (by kernel_rfl),by kernel_rfl,by kernel_rfl⟩
theorem Sh (objs:List VO)(l:List MsgS)(M:MsgS)(h:l.length≤64000000):bp prog aM 0 ⟨objs,tL l⟩ (.call ⟨.builtin .append,#[.tmp 46,.tmp 48],#[25,25]⟩) [(46,xL l),(48,.vec 15 [M.cells] .full)] (.vec 15 ((l++ [M]).map MsgS.cells) (.tail 0 (l++ [M]).length)) ⟨objs,[((l++ [M]).length,15,true)]⟩:=by
  obtain ⟨inf,z,i1,i2,i3,i4,i5⟩:=wo
  have h1:=fq (inf:=inf) (P:=prog) (G:=aM) (ro:=0) (T:=⟨objs,tL l⟩) (T1:=⟨objs,[(l.length,15,true)]⟩) (t:=25) (tx:=25) (s:=.tmp 46) (x:=.tmp 48) (l:= [(46,xL l),(48,.vec 15 [M.cells] .full)]) (es:=l.map MsgS.cells) (es2:= [M.cells]) (k:=0) (n:=l.length) (bn:=true) Tryz.underlying25 i1 i4 (by rw [i2];exact i5) (by rw [i2];decide) (by kernel_rfl)
    (by rw [i2];cases l<;>simp [aA,eF,cR,xL,tL]) (by rw [i2];rfl)
    (by have h1:=i3
        have h2:=Nat.mul_le_mul (show (l.map MsgS.cells).length+ [M.cells].length≤64000001 by simp only [length_map,length_cons,length_nil];omega) h1
        omega)
  rw [i2] at h1
  rw [show (l++ [M]).map MsgS.cells=l.map MsgS.cells++ [M.cells] by rw [List.map_append];rfl,show (l++ [M]).length=l.length+ [M.cells].length by simp]
  exact h1
def tH (id k n:Nat):TV:=bif beq k n then .vec 1 [] (.past id (0+k)) else .row 1 id (0+k) (n-k)
theorem JO {G:aP}{x i:Operand}{l:List (Nat × TV)}{id n:Nat}{k:IntKind}{z:Int}(hx:aA G l x=.row 1 id 0 n)(hz:aA G l i=.val (.int k z))(h0:0<z)(h1:z.toNat≤n):aS prog G (.slice 22 x (some i) none none) l (tH id z.toNat n):=by
 obtain ⟨inf,i1,i2,_,_⟩:=cJ
 refine ⟨?_⟩
 have hlow:dS (some (aA G l i))=some z.toNat:=by simp [dS,ek,hz,Int.le_of_lt h0]
 have hR:fw prog 22 (aA G l x) (some (aA G l i)) none none=some (tH id z.toNat n):=by
  rw [hx]
  simp only [fw,underlying22,i1,hlow,nU,i2]
  obtain ⟨w,hw⟩:∃w,z.toNat=w+1:=⟨z.toNat-1,by omega⟩
  rw [hw] at h1 ⊢
  rw [beq_refl,ble_eq_true_of_le h1,ble_eq_true_of_le (le_refl n)]
  simp only [Bool.and_self,cond_true,tH]
  cases beq (w+1) n<;>rfl
 simp [aW,gB,hR]
theorem Mo {T:VT}{ds:List TV}{id k n:Nat}(ho:T.objs[id]?=some (.row ds))(hr:RwOk ds 0 n)(hk:k≤n):bL T 1 (tH id k n)=some (an ds k (n-k)):=by
 unfold tH
 have h1:=hr.1
 cases hb:beq k n
 ·have h2:ble (k+(n-k)) ds.length=true:=ble_eq_true_of_le (by omega)
  simp only [cond_false,bL,ho,zero_add,beq_refl,h2,Bool.and_self,cond_true,mul_one,an]
 ·obtain rfl:=eq_of_beq_eq_true hb
  rw [show an ds k (k-k)= [] from List.eq_nil_of_length_eq_zero (by rw [io];omega)]
  simp [bL]
theorem x5 {G:aP}{x i:Operand}{l:List (Nat × TV)}{id n:Nat}{k:IntKind}{z:Int}(hx:aA G l x=.row 1 id 0 n)(hz:aA G l i=.val (.int k z))(h0:0≤z)(h1:z.toNat≤n):aS prog G (.slice 22 x none (some i) none) l (.row 1 id 0 z.toNat):=by
 obtain ⟨inf,i1,i2,_,_⟩:=cJ
 have h:=JM (P:=prog) (G:=G) (t:=22) (x:=x) (i:=i) (l:=l) (inf:=inf) (id:=id) (off:=0) (n:=n) underlying22 i1 (by rw [i2];exact hx) hz h0 h1
 rw [i2] at h
 exact h
theorem PL {T:VT}{ds:List TV}{k n:Nat}(ho:T.objs[2]?=some (.row ds))(hr:RwOk ds 0 n)(hk:k≤n):bp prog aM 0 T (.call ⟨.builtin .copy,#[.tmp 67,.tmp 73],#[22,22]⟩) [(67,.row 1 2 0 n),(73,tH 2 k n)] (.val (.int .i64 ((n-k:Nat):Int))) {T with objs:=T.objs.set 2 (.row (bs ds 0 (an ds k (n-k)).flatten))}:=by
 obtain ⟨inf,i1,i2,_,_⟩:=cJ
 have hs:IsB (an ds k (n-k)):=(hr.sub (by have:=hr.1;omega)).is
 have h:=Hy (P:=prog) (G:=aM) (ro:=0) (T:=T) (t:=22) (tx:=22) (d:=.tmp 67) (x:=.tmp 73) (l:= [(67,.row 1 2 0 n),(73,tH 2 k n)]) (inf:=inf) (es:=an ds k (n-k)) (id:=2) (off:=0) (m:=n) (cs:=ds) underlying22 i1 (by kernel_rfl) (by rw [i2];rfl) ho (by rw [i2];exact Mo ho hr hk) (by rw [io];omega) (by rw [i2,AC hs,io];have:=hr.1;omega) (zero_le _)
 rw [io,i2] at h
 exact h
def qF (w:Bs)(pas:Int):Bool:=(ba w pas).2.2.isNone
def bN (w:Bs)(pas:Int):List MsgS:=(ba w pas).1
def JP (w:Bs)(pas:Int):Nat:=(ba w pas).2.1.length
def qG (w:Bs)(pas:Int):Nat:=match (ba w pas).2.2 with
 |some p=>p.1
 |none=>0
def jI (w:Bs)(pas:Int):Int:=match (ba w pas).2.2 with
 |some p=>p.2.1
 |none=>0
def iq (w:Bs)(pas:Int):Bs:=match (ba w pas).2.2 with
 |some p=>p.2.2
 |none=> []
def Vx (ds:List TV)(lx:TV)(tl:bq)(w:Bs)(pas:Int):Prop:=(RwOk ds 0 (JP w pas)∧an ds 0 (JP w pas)=(ba w pas).2.1)∧lx=xL (bN w pas)∧tl=tL (bN w pas)
def Vy (ds:List TV)(lx:TV)(tl:bq)(w:Bs)(pas:Int):Prop:=RwOk ds 0 0∧lx=xL (bN w pas)∧tl=tL (bN w pas)
def Si (n:Int)(N:Nat):Prop:=0≤n∧n+N≤32000000
def Vz (σ:List TV)(ps:Array Tmp)(asg body:Code):Prop:=(pick [2,6] σ= [.ptr 1 0,.ptr 4 0]∧σ.length=57)∧ps= #[34,35]∧asg=ep∧body=du
structure Nk where
 ds:List TV
 N:Nat
 l:List MsgS
 n:Int
def x6 (pas n0:Int)(w:Bs)(os:List VO)(tl:bq):Prop:=∃ds:List TV,RwOk ds 0 0∧tl=tL (ba w pas).1∧match (ba w pas).2.2 with
 |none=>RwOk ds 0 (ba w pas).2.1.length∧an ds 0 (ba w pas).2.1.length=(ba w pas).2.1∧os=(oG pas 0 0 (n0+(ba w pas).1.length) (.vec 1 [] .none) (.row 1 2 0 (ba w pas).2.1.length) (xL (ba w pas).1) ds [] .ready none).objs
 |some (c,s,d)=>os=(oG pas (ofNat (c+1)) s (n0+(ba w pas).1.length) (.vec 1 d .none) (.val (.slice none 0 0)) (xL (ba w pas).1) ds [] .done (some (.exit 0))).objs
def Fh:List TV:= [.yld 5,.ptr 4 0]
def JQ (pas n0:Int)(w:Bs)(e:Exit)(vs:List TV)(T:VT):Prop:=(e=.normal∨e=.ret)∧vs=Fh∧x6 pas n0 w (T.objs.take 6) T.tails
def Nl (pas n0:Int)(w0:Bs)(s:Nk):Prop:=RwOk s.ds 0 s.N∧gi s.l∧s.n=n0+s.l.length∧s.l.length+s.N≤w0.length∧ba w0 pas=(s.l++(ba (an s.ds 0 s.N) pas).1,(ba (an s.ds 0 s.N) pas).2)
noncomputable def tI (pas:Int)(s:Nk):VT:=oG pas 0 0 s.n (.vec 1 [] .none) (.row 1 2 0 s.N) (xL s.l) s.ds (tL s.l) .ready none
def VA (pas n0:Int)(w0:Bs)(N:Nat)(e:Exit)(vs:List TV)(os:List VO)(tl:bq)(D:List Nat)(m:Nat):Prop:=D= []∧m=84∧vs=Fh∧match e with
 | .normal=>∃s',Nl pas n0 w0 s'∧s'.N<N∧os.map (VO.ren (ap 6) (ap 1))=(tI pas s').objs∧tl.take 1=(tI pas s').tails
 | .exit i=>i=0∧x6 pas n0 w0 os tl
 | .ret=>x6 pas n0 w0 os tl
 |_=>False
theorem JR {pas:Int}{s:Nk}(hr:RwOk s.ds 0 s.N)(ha:gi s.l):(tI pas s).objs.map (VO.ren (ap 6) (ap 1))=(tI pas s).objs:=by
 have e:=hr.ren (ap 6) (ap 1)
 simp only [VO.ren] at e
 injection e with e
 simp only [tI,oG,map_cons,map_nil,iO,VO.ren,aw,Ds ha,e]
 rfl
theorem Mp {b:Bs}{pas:Int}(h:tG b pas=true):fa b pas=.inr (r8 b pas):=by
 unfold tG at h
 unfold r8
 cases e:fa b pas with
 |inl p=>rw [e] at h;cases h
 |inr M=>rfl
theorem PM {ds0:List TV}{N0:Nat}{pas n0:Int}(hr0:RwOk ds0 0 N0)(hn0:0≤n0)(hn1:n0+N0≤32000000)(K:KX)(hK:∀e vs T,JQ pas n0 (an ds0 0 N0) e vs T→K e (aI 84 [0,1] vs) T []):
  VWx prog aM none 0 (aE prog ip 0) (aI 84 [0,1] Fh) (oG pas 0 0 n0 (.vec 1 [] .none) (.row 1 2 0 N0) (.val (.slice none 0 0)) ds0 [] .ready none) [] K:=by
 have hlen0:(an ds0 0 N0).length=N0:=io _ _ _
 refine dM (f:=ip) (id:=0) (by kernel_rfl) 84 [0,1] (λs:Nk=>s.N) (λ_=>Fh) (tI pas) (Nl pas n0 (an ds0 0 N0)) 6 1 (λs _=>⟨le_refl _,JN s.l⟩) (JQ pas n0 (an ds0 0 N0)) (λs hs=> ?_) ⟨ds0,N0,[],n0⟩ ⟨hr0,(λM h=>by cases h),by simp,by simp [hlen0],rfl⟩ K hK
 obtain ⟨ds,N,l,n⟩:=s
 obtain ⟨hr,ha,hn,hlen,hfd⟩:=hs
 simp only at hr ha hn hlen hfd
 have hS:bu prog aM (aT [(Av,De),(E6,Ni)]):=aZ λp hp=>by
  rcases mem_cons.1 hp with rfl | hp;exact JE
  obtain rfl:=mem_singleton.1 hp;exact R5
 have hL:∀F2:gD,dy prog aM (zl 999997 (λ_ _ _ _ _ _=>False,.skip) 1000006 (zk prog aM bo F2 250 (cj prog ip 6),cj prog ip 6)):=λF2=>Fd (λ_ _ _ _ _ _ h=>h.elim) (λrd ro σ T D K h=>Fc (C:=bo) (F2:=F2) (n:=250) (c:=cj prog ip 6) ac aa (show bu prog aM bo from ai) rd ro σ T D K h)
 have hw:=hr.is
 have hwl:(an ds 0 N).length=N:=io _ _ _
 have hrs:=hr.1
 have h0w:=hr0.2.1
 have h0N:=hr0.1
 rw [hlen0] at hlen
 generalize hW:an ds 0 N=w at hw hwl hfd
 have hdt:an ds 0 (bM w).toNat=an ds 0 (bM w).toNat:=rfl
 have hv:=UE pas n N (bM w).toNat (N-(bM w).toNat) ((N-(bM w).toNat:Nat):Int) (xL l) (tH 2 (bM w).toNat N) ((l++ [r8 (w.take (bM w).toNat) pas]).map MsgS.cells) (.tail 0 (l++ [r8 (w.take (bM w).toNat) pas]).length) ds (bs ds 0 (an ds (bM w).toNat (N-(bM w).toNat)).flatten) (tL l) [((l++ [r8 (w.take (bM w).toNat) pas]).length,15,true)] (VA pas n0 (an ds0 0 N0) N)
 refine VWx.mono (Q:=λe σ T D=>VA pas n0 (an ds0 0 N0) N e (pick [0,1] σ) (T.objs.take 6) T.tails D σ.length) (bU ac aa hS (hL _) hv ?_) (λe σ T D hq=> ?_)
 rotate_left
 ·obtain ⟨h1,h2,h3,h4⟩:=hq
  refine ⟨h1,h2,?_⟩
  cases e
  case normal=>
   obtain ⟨s',a1,a2,a3,a4⟩:=h4
   refine ⟨s',a1,a2,.inr ⟨?_,?_⟩⟩
   ·show (⟨_,_⟩:VT)=_
    rw [a3,a4]
   ·rw [h3];rfl
  case exit i=>
   obtain ⟨rfl,h4⟩:=h4
   exact ⟨.inl rfl,h3,h4⟩
  case ret=>exact ⟨.inr rfl,h3,h4⟩
  all_goals exact h4.elim
 rw [hW]
 have r0:RwOk ds 0 0:=hr.sub (by omega)
 by_cases hl:N<19
 ·have hwL:w.length<19:=by omega
  refine bg (decide_eq_false (by omega)) ⟨rfl,rfl,rfl,rfl,ds,r0,?_,?_⟩
  ·rw [hfd,fu pas hwL];simp
  ·rw [hfd,fu pas hwL]
   simp only [append_nil]
   refine ⟨hwl▸hr,by rw [hwl];exact hW,?_⟩
   rw [hwl,hn];rfl
 have hwL:¬w.length<19:=by omega
 refine bd (decide_eq_true (by omega)) ⟨⟨rfl,hr,ble_eq_true_of_le (by omega),rfl⟩,?_⟩
 refine am (λh1=> ?_) (λh1=> ?_)
 rotate_left
 ·refine ⟨rfl,rfl,rfl,rfl,ds,r0,?_,?_⟩
  ·rw [hfd,nK pas hwL h1];simp
  ·rw [hfd,nK pas hwL h1]
   simp only [append_nil]
   rw [hn];rfl
 have h19:=rD hwL h1
 refine am (λh2=> ?_) (λh2=> ?_)
 ·have h3:bM w>w.length:=by have:=of_decide_eq_true h2;omega
  refine ⟨rfl,rfl,rfl,ds,r0,?_,?_⟩
  ·rw [hfd,oH pas hwL h1 h3];simp
  ·rw [hfd,oH pas hwL h1 h3]
   simp only [append_nil]
   refine ⟨hwl▸hr,by rw [hwl];exact hW,?_⟩
   rw [hwl,hn];rfl
 have h3:¬bM w>w.length:=by have:=of_decide_eq_false h2;omega
 have hkN:(bM w).toNat≤N:=by omega
 have hsk:an ds 0 (bM w).toNat=w.take (bM w).toNat:=by rw [←Pk hr hkN,hW]
 have hrk:RwOk ds 0 (bM w).toNat:=hr.sub (by omega)
 refine ⟨x5 rfl rfl (by omega) hkN,⟨rfl,hrk,ble_eq_true_of_le (by omega),rfl⟩,?_⟩
 rw [hsk]
 refine am (λh4=> ?_) (λh4=> ?_)
 ·intro M hM
  have hP:=Mp h4
  obtain rfl:M=r8 (w.take (bM w).toNat) pas:=by
   unfold Ml at hM;rw [hP] at hM;exact (Sum.inr.inj hM).symm
  have hst:=oI hwL h1 h3 hP
  obtain ⟨hrn,hsn⟩:=Mn hr hkN
  rw [hW] at hsn
  have hMw:=JK (hw.take _) hP
  have ha2:gi (l++ [r8 (w.take (bM w).toNat) pas]):=λm hm=>by
   rcases mem_append.1 hm with hm | hm
   ·exact ha m hm
   ·obtain rfl:=mem_singleton.1 hm;exact hMw
  refine ⟨rfl,Sh _ l _ (by omega),JO rfl rfl (by omega) hkN,PL rfl hr hkN,?_,?_⟩
  ·have h:=x5 (G:=aM) (x:=.tmp 79) (i:=.tmp 80) (l:= [(79,.row 1 2 0 N),(80,.val (.int .i64 ((N-(bM w).toNat:Nat):Int)))]) (id:=2) (n:=N) (k:=.i64) (z:=((N-(bM w).toNat:Nat):Int)) rfl rfl (by omega) (by omega)
   rw [Int.toNat_natCast] at h
   exact h
  ·refine ⟨rfl,rfl,rfl,⟨bs ds 0 (an ds (bM w).toNat (N-(bM w).toNat)).flatten,N-(bM w).toNat,l++ [r8 (w.take (bM w).toNat) pas],n+1⟩,⟨hrn,ha2,?_,?_,?_⟩,by show N-(bM w).toNat<N;omega,?_,?_⟩
   ·simp only [length_append,length_cons,length_nil];omega
   ·simp only [length_append,length_cons,length_nil,hlen0];omega
   ·simp only [hsn]
    rw [hfd,hst]
    simp
   ·rw [dE (by omega) (by omega)]
    have h:=JR (pas:=pas) (s:=⟨bs ds 0 (an ds (bM w).toNat (N-(bM w).toNat)).flatten,N-(bM w).toNat,l++ [r8 (w.take (bM w).toNat) pas],n+1⟩) hrn ha2
    rw [←h]
    simp only [tI,Sf]
    rfl
   ·simp only [tI,oG,Sg];rfl
 ·intro c s d hB
  refine ⟨rfl,rfl,rfl,rfl,ds,r0,?_,?_⟩
  ·rw [hfd,kN hwL h1 h3 hB];simp
  ·rw [hfd,kN hwL h1 h3 hB]
   simp only [append_nil]
   rw [hn]
   rfl
--bumped 32
def zm:List TV:= [.dead,.dead,.ptr 1 0,.dead,.dead,.dead,.ptr 4 0]++List.replicate 50 .dead
def JS:be:=λro ys T K=>match T.objs with
 |[.cells [.val (.bool true),.val (.int .i64 pas),.row 1 3 0 N,.val (.int .i64 0),.val (.int .i64 0),.vec 1 [] .none,.val (.int .i64 n)],.cells [.ptr 0 0],o2,.row ds,.cells [.val (.slice none 0 0)],.cells [.ptr 0 0],o6,.loop .ready none σ ps asg body]=>((ro=0∧ys= [.yld 7,.ptr 5 0]∧T.tails= []∧RwOk ds 0 N∧Si n N)∧Vz σ ps asg body)∧bif qF (an ds 0 N) pas
  then ∀(ds2:List TV) (lx:TV) (tl:bq),Vx ds2 lx tl (an ds 0 N) pas→K (.tup []) ⟨[iO pas (.row 1 3 0 (JP (an ds 0 N) pas)) 0 0 (.vec 1 [] .none) (n+(bN (an ds 0 N) pas).length),.cells [.ptr 0 0],o2,.row ds2,.cells [lx],.cells [.ptr 0 0],o6,.loop .ready none zm #[34,35] ep du],tl⟩
  else ∀(ds2:List TV) (lx:TV) (tl:bq),Vy ds2 lx tl (an ds 0 N) pas→K (.tup []) ⟨[iO pas (.val (.slice none 0 0)) (ofNat (qG (an ds 0 N) pas+1)) (jI (an ds 0 N) pas) (.vec 1 (iq (an ds 0 N) pas) .none) (n+(bN (an ds 0 N) pas).length),.cells [.ptr 0 0],o2,.row ds2,.cells [lx],.cells [.ptr 0 0],o6,.loop .done (some (.exit 0)) zm #[34,35] ep du],tl⟩
 |[.cells [.val (.bool true),.val (.int .i64 pas),.val (.slice none 0 0),.val (.int .i64 0),.val (.int .i64 0),.vec 1 [] .none,.val (.int .i64 n)],.cells [.ptr 0 0],o2,o3,.cells [.ptr 0 0],o5,o6]=>(ro=0∧ys= [.yld 6,.ptr 4 0])∧K (.tup []) T
 |_=>aQ 85 default ys
abbrev Sj:=7
theorem UF (pas:Int)(n:Int)(a b:Bs)(tok:Tok)(Q:TV→VT→Prop):ax prog aM (aT [(vz,JH),(ip,JS),(m5,mC)]) (bB [(999998,.dead,none)]) 300 aU 0 vA [.ptr 0 0,.vec 1 b tok] ⟨[iO pas (.vec 1 a .none) 0 0 (.vec 1 [] .none) n],[]⟩ Q=
 ((IsB (a)∧
 (IsB (b)∧
 (@Eq (Bool) (ble (length a+length b) (32000000:Nat)) true)))∧
 (bif beq (length a+length b) (0:Nat)
 then (((@Eq (Option TV) (.some (.vec 1 (a) .none)) (.some (.vec 1 (a) .none)))∧
 ((@Eq (Option TV) (.some (.ptr 0 0)) (.some (.ptr 0 0)))∧
 ((@Eq (Option TV) (.some (.ptr 0 0)) (.some (.ptr 0 0)))∧
 True)))∧
 (((@Eq (Nat) 0 0)∧
 (@Eq (List TV) [(.yld 6),(.ptr 4 0)] [(.yld 6),(.ptr 4 0)]))∧
 (IsB []∧
 (((@Eq (Option TV) (.some (.ptr 0 0)) (.some (.ptr 0 0)))∧
 ((@Eq (Option TV) (.some (.val (.slice .none 0 0))) (.some (.val (.slice .none 0 0))))∧
 True))∧
 Q (.tup [(.val (.slice .none 0 0)),(.agg [(.val (.int .i64 0)),(.val (.int .i64 0)),(.vec 1 [] .none)])]) ⟨[(.cells [(.val (.bool true)),(.val (.int .i64 (pas))),(.val (.slice .none 0 0)),(.val (.int .i64 0)),(.val (.int .i64 0)),(.vec 1 [] .none),(.val (.int .i64 (n)))]),(.cells [(.ptr 0 0)]),(.cells [(.val (.int .i64 0)),(.val (.int .i64 0)),(.vec 1 [] .none)]),(.cells [(.val (.slice .none 0 0))]),(.cells [(.ptr 0 0)]),.gone,(.loop .exhausted .none [(.ptr 0 0),(.vec 1 (b) (tok)),(.ptr 1 0),(.val (.tuple #[])),(.val (.slice .none 0 0)),(.ptr 2 0),(.ptr 3 0),(.val (.tuple #[])),(.val (.tuple #[])),(.ptr 0 0),(.val (.bool true)),(.val (.bool false)),(.val (.bool false)),(.ptr 0 0),(.ptr 0 0),(.ptr 0 3),(.ptr 0 3),(.val (.int .i64 0)),(.val (.bool false)),(.val (.bool false)),(.val (.tuple #[])),(.val (.tuple #[])),(.ptr 0 0),(.ptr 0 0),(.ptr 0 0),(.ptr 0 2),(.vec 1 (a) .none),(.vec 1 (b) (tok)),(.vec 1 [[(.vec 1 (a) .none)],[(.vec 1 (b) (tok))]] .full),(.val (.slice .none 0 0)),(.ptr 0 0),(.ptr 0 2),(.ptr 0 0),(.fn (.func 43) [] [(.ptr 4 0)]),(.val (.tuple #[])),(.val (.tuple #[])),(.val (.tuple #[])),(.val (.tuple #[])),(.val (.tuple #[])),(.val (.tuple #[])),(.val (.tuple #[])),(.val (.tuple #[])),(.val (.tuple #[])),(.val (.tuple #[])),(.val (.tuple #[])),(.val (.tuple #[])),(.val (.tuple #[])),(.val (.tuple #[])),(.val (.tuple #[])),(.val (.tuple #[])),(.val (.tuple #[])),(.val (.tuple #[])),(.val (.tuple #[])),(.val (.tuple #[])),(.val (.tuple #[])),(.val (.tuple #[])),(.val (.tuple #[]))] #[34,35] ep du),(.cells [(.val (.int .i64 0)),(.val (.int .i64 0)),(.vec 1 [] .none)]),(.cells [(.val (.int .i64 0)),(.val (.int .i64 0)),(.vec 1 [] .none)])],[]⟩))))
 else (((@Eq (Option TV) (.some (.vec 1 (a) .none)) (.some (.vec 1 (a) .none)))∧
 ((@Eq (Option TV) (.some (.ptr 0 0)) (.some (.ptr 0 0)))∧
 ((@Eq (Option TV) (.some (.ptr 0 0)) (.some (.ptr 0 0)))∧
 True)))∧
 ((((@Eq (Nat) 0 0)∧
 ((@Eq (List TV) [(.yld 7),(.ptr 5 0)] [(.yld 7),(.ptr 5 0)])∧
 ((@Eq (List (Nat × Nat × Bool)) [] [])∧
 (RwOk (flatten (a++b)) 0 (length a+length b)∧
 Si (n) (length a+length b)))))∧
 Vz [(.ptr 0 0),(.vec 1 (b) (tok)),(.ptr 1 0),(.val (.tuple #[])),(.val (.slice .none 0 0)),(.ptr 2 0),(.ptr 4 0),(.val (.tuple #[])),(.val (.tuple #[])),(.ptr 0 0),(.val (.bool true)),(.val (.bool false)),(.val (.bool false)),(.ptr 0 0),(.ptr 0 0),(.ptr 0 3),(.ptr 0 3),(.val (.int .i64 0)),(.val (.bool false)),(.val (.bool false)),(.val (.tuple #[])),(.val (.tuple #[])),(.ptr 0 0),(.ptr 0 0),(.ptr 0 0),(.ptr 0 2),(.vec 1 (a) .none),(.vec 1 (b) (tok)),(.vec 1 [[(.vec 1 (a) .none)],[(.vec 1 (b) (tok))]] .full),(.row 1 3 0 (length a+length b)),(.ptr 0 0),(.ptr 0 2),(.ptr 0 0),(.fn (.func 43) [] [(.ptr 5 0)]),(.val (.tuple #[])),(.val (.tuple #[])),(.val (.tuple #[])),(.val (.tuple #[])),(.val (.tuple #[])),(.val (.tuple #[])),(.val (.tuple #[])),(.val (.tuple #[])),(.val (.tuple #[])),(.val (.tuple #[])),(.val (.tuple #[])),(.val (.tuple #[])),(.val (.tuple #[])),(.val (.tuple #[])),(.val (.tuple #[])),(.val (.tuple #[])),(.val (.tuple #[])),(.val (.tuple #[])),(.val (.tuple #[])),(.val (.tuple #[])),(.val (.tuple #[])),(.val (.tuple #[])),(.val (.tuple #[]))] #[34,35] ep du)∧
 (bif qF (an (flatten (a++b)) (0:Nat) (length a+length b)) pas
 then (∀ds2:List TV,(∀lx:TV,(∀tl:bq,(Vx (ds2) (lx) (tl) (an (flatten (a++b)) (0:Nat) (length a+length b)) (pas)→(IsB []∧
 (((@Eq (Option TV) (.some (.ptr 0 0)) (.some (.ptr 0 0)))∧
 ((@Eq (Option TV) (.some (lx)) (.some (lx)))∧
 True))∧
 Q (.tup [(lx),(.agg [(.val (.int .i64 0)),(.val (.int .i64 0)),(.vec 1 [] .none)])]) ⟨[(.cells [(.val (.bool true)),(.val (.int .i64 (pas))),(.row 1 3 0 (JP (an (flatten (a++b)) (0:Nat) (length a+length b)) pas)),(.val (.int .i64 0)),(.val (.int .i64 0)),(.vec 1 [] .none),(.val (.int .i64 (n+(↑(length (bN (an (flatten (a++b)) (0:Nat) (length a+length b)) pas)):Int))))]),(.cells [(.ptr 0 0)]),(.cells [(.val (.int .i64 0)),(.val (.int .i64 0)),(.vec 1 [] .none)]),(.row (ds2)),(.cells [(lx)]),(.cells [(.ptr 0 0)]),.gone,(.loop .exhausted .none [.dead,.dead,(.ptr 1 0),.dead,.dead,.dead,(.ptr 4 0),.dead,.dead,.dead,.dead,.dead,.dead,.dead,.dead,.dead,.dead,.dead,.dead,.dead,.dead,.dead,.dead,.dead,.dead,.dead,.dead,.dead,.dead,.dead,.dead,.dead,.dead,.dead,.dead,.dead,.dead,.dead,.dead,.dead,.dead,.dead,.dead,.dead,.dead,.dead,.dead,.dead,.dead,.dead,.dead,.dead,.dead,.dead,.dead,.dead,.dead] #[34,35] ep du),(.cells [(.val (.int .i64 0)),(.val (.int .i64 0)),(.vec 1 [] .none)]),(.cells [(.val (.int .i64 0)),(.val (.int .i64 0)),(.vec 1 [] .none)])],(tl)⟩))))))
 else (∀ds2:List TV,(∀lx:TV,(∀tl:bq,(Vy (ds2) (lx) (tl) (an (flatten (a++b)) (0:Nat) (length a+length b)) (pas)→(IsB (iq (an (flatten (a++b)) (0:Nat) (length a+length b)) pas)∧
 (((@Eq (Option TV) (.some (.ptr 0 0)) (.some (.ptr 0 0)))∧
 ((@Eq (Option TV) (.some (lx)) (.some (lx)))∧
 True))∧
 Q (.tup [(lx),(.agg [(.val (.int .i64 (ofNat (qG (an (flatten (a++b)) (0:Nat) (length a+length b)) pas+(1:Nat))))),(.val (.int .i64 (jI (an (flatten (a++b)) (0:Nat) (length a+length b)) pas))),(.vec 1 (iq (an (flatten (a++b)) (0:Nat) (length a+length b)) pas) .none)])]) ⟨[(.cells [(.val (.bool true)),(.val (.int .i64 (pas))),(.val (.slice .none 0 0)),(.val (.int .i64 (ofNat (qG (an (flatten (a++b)) (0:Nat) (length a+length b)) pas+(1:Nat))))),(.val (.int .i64 (jI (an (flatten (a++b)) (0:Nat) (length a+length b)) pas))),(.vec 1 (iq (an (flatten (a++b)) (0:Nat) (length a+length b)) pas) .none),(.val (.int .i64 (n+(↑(length (bN (an (flatten (a++b)) (0:Nat) (length a+length b)) pas)):Int))))]),(.cells [(.ptr 0 0)]),(.cells [(.val (.int .i64 (ofNat (qG (an (flatten (a++b)) (0:Nat) (length a+length b)) pas+(1:Nat))))),(.val (.int .i64 (jI (an (flatten (a++b)) (0:Nat) (length a+length b)) pas))),(.vec 1 (iq (an (flatten (a++b)) (0:Nat) (length a+length b)) pas) .none)]),(.row (ds2)),(.cells [(lx)]),(.cells [(.ptr 0 0)]),.gone,(.loop .exhausted (.some (Code.exit (0:Nat))) [.dead,.dead,(.ptr 1 0),.dead,.dead,.dead,(.ptr 4 0),.dead,.dead,.dead,.dead,.dead,.dead,.dead,.dead,.dead,.dead,.dead,.dead,.dead,.dead,.dead,.dead,.dead,.dead,.dead,.dead,.dead,.dead,.dead,.dead,.dead,.dead,.dead,.dead,.dead,.dead,.dead,.dead,.dead,.dead,.dead,.dead,.dead,.dead,.dead,.dead,.dead,.dead,.dead,.dead,.dead,.dead,.dead,.dead,.dead,.dead] #[34,35] ep du),(.cells [(.val (.int .i64 (ofNat (qG (an (flatten (a++b)) (0:Nat) (length a+length b)) pas+(1:Nat))))),(.val (.int .i64 (jI (an (flatten (a++b)) (0:Nat) (length a+length b)) pas))),(.vec 1 (iq (an (flatten (a++b)) (0:Nat) (length a+length b)) pas) .none)]),(.cells [(.val (.int .i64 (ofNat (qG (an (flatten (a++b)) (0:Nat) (length a+length b)) pas+(1:Nat))))),(.val (.int .i64 (jI (an (flatten (a++b)) (0:Nat) (length a+length b)) pas))),(.vec 1 (iq (an (flatten (a++b)) (0:Nat) (length a+length b)) pas) .none)])],(tl)⟩))))))))))):=by kernel_rfl
theorem Sk (pas s:Int)(c:Nat)(a d:Bs)(n:Int)(b:Bs)(tok:Tok)(Q:TV→VT→Prop):ax prog aM (aT [(vz,JH),(ip,JS),(m5,mC)]) (bB [(999998,.dead,none)]) 300 aU 0 vA [.ptr 0 0,.vec 1 b tok] ⟨[iO pas (.vec 1 a .none) (ofNat (c+1)) s (.vec 1 d .none) n],[]⟩ Q=
 (IsB (d)∧
 Q (.tup [(.val (.slice .none 0 0)),(.agg [(.val (.int .i64 (ofNat (c+(1:Nat))))),(.val (.int .i64 (s))),(.vec 1 (d) .none)])]) ⟨[(.cells [(.val (.bool true)),(.val (.int .i64 (pas))),(.vec 1 (a) .none),(.val (.int .i64 (ofNat (c+(1:Nat))))),(.val (.int .i64 (s))),(.vec 1 (d) .none),(.val (.int .i64 (n)))]),(.cells [(.ptr 0 0)]),(.cells [(.val (.int .i64 (ofNat (c+(1:Nat))))),(.val (.int .i64 (s))),(.vec 1 (d) .none)]),(.cells [(.val (.int .i64 (ofNat (c+(1:Nat))))),(.val (.int .i64 (s))),(.vec 1 (d) .none)]),(.cells [(.val (.int .i64 (ofNat (c+(1:Nat))))),(.val (.int .i64 (s))),(.vec 1 (d) .none)])],[]⟩):=by kernel_rfl
theorem Sl (pas n:Int)(Q:TV→VT→Prop):ax prog ae bo (bB [(999998,.dead,none)]) 300 aU 0 ip [.dead,.ptr 1 0] ⟨[iO pas (.val (.slice none 0 0)) 0 0 (.vec 1 [] .none) n,.cells [.ptr 0 0]],[]⟩ Q=
Q (.tup []) ⟨[(.cells [(.val (.bool true)),(.val (.int .i64 (pas))),(.val (.slice .none 0 0)),(.val (.int .i64 0)),(.val (.int .i64 0)),(.vec 1 [] .none),(.val (.int .i64 (n)))]),(.cells [(.ptr 0 0)])],[]⟩:=by kernel_rfl
theorem UG (T0:VT)(Po:VT→Prop)(Q:TV→VT→Prop):ax prog aM bo aR 300 (bX [(0,gn 84 [0,1] [] [.yld 5,.ptr 4 0] T0 (λK=>∀T,Po T→(K .normal (aI 84 [0,1] [.yld 5,.ptr 4 0]) T []∧K .ret (aI 84 [0,1] [.yld 5,.ptr 4 0]) T [])),aE prog ip 0)]) 0 ip [.yld 5,.ptr 4 0] T0 Q=
 ((aE prog ip (0:Nat)=aE prog ip (0:Nat))∧
 (((@Eq (Option Nat) .none .none)∧
 ((@Eq (Nat) 0 0)∧
 ((@Eq (List Nat) [] [])∧
 (True  ∧
 ((@Eq (VT) (T0) (T0))∧
 ((@Eq (Bool) true true)∧
 (@Eq (List TV) [(.yld 5),(.ptr 4 0)] [(.yld 5),(.ptr 4 0)])))))))∧
 (∀T:VT,(Po (T)→(Q (.tup []) (T)∧
 Q (.tup []) (T)))))):=by kernel_rfl
theorem Sm (pas:Int)(Q:TV→VT→Prop):ax prog ae bo (bB [(999998,.dead,none)]) 300 aU 0 Sj [.val (.int .i64 pas)] ⟨[],[]⟩ Q=
Q (.ptr 0 0) ⟨[(.cells [(.val (.bool true)),(.val (.int .i64 (pas))),(.val (.slice .none 0 0)),(.val (.int .i64 0)),(.val (.int .i64 0)),(.val (.slice .none 0 0)),(.val (.int .i64 0))])],[]⟩:=by kernel_rfl
--bumped 32
theorem VCx.loopLe {P:Program}{G:aP}{ro i:Nat}{f:FuncId}{xs:List TV}{T:VT}{Q:TV→VT→Prop}{st:LoopState}{pend:Option Code}{σ:List TV}{m:List (Option TV)}{ps:Array Tmp}{asg body:Code}(hi:T.objs[i]?=some (.loop st pend σ ps asg body))(hle:LEs σ m)(hro:ro≤i)
  (h:VCx P G ro f xs {T with objs:=T.objs.set i (.loop st pend (mm m) ps asg body)} Q):VCx P G ro f xs T Q:=by
 intro g w us r hG hx
 have r':=r.objLe hi rfl (o':=.loop st pend (mm m) ps asg body) rfl λb ⟨us,fn,db,h1,h2⟩=>⟨us,fn,db,h1,hle.ok h2⟩
 refine Calls.mono (h g w us r' hG hx) ?_
 rintro e w' ⟨v,x,g',T',he,hq,e',r2,hv,hf⟩
 have hat:∀j,j<ro→(T.objs.set i (.loop st pend (mm m) ps asg body))[j]?=T.objs[j]?:=λj hj=>by
  rw [getElem?_set,if_neg (by omega)]
 exact ⟨v,x,g',T',he,hq,e',r2,hv,⟨by have:=hf.len;simpa using this,λj hj hl=>(hf.same j hj (by simpa using hl)).trans (hat j hj),λj o b hj ho hl hb=>hf.heap j o b hj ((hat j hj).trans ho) hl hb⟩⟩
section
variable {P:Program}{G:aP}
theorem VCx.cellsLe {f:FuncId}{xs:List TV}{T:VT}{Q:TV→VT→Prop}(i:Nat)(h:VCx P G 0 f xs T λx T'=>∃cs cs':List TV,T'.objs[i]?=some (.cells cs)∧TVleL cs cs'∧Q x {T' with objs:=T'.objs.set i (.cells cs')}):VCx P G 0 f xs T Q:=by
 intro g w us rw0 hG hx
 refine Calls.mono (h g w us rw0 hG hx) ?_
 rintro e w' ⟨v,x,g',T',he,⟨cs,cs',h1,h2,hq⟩,e',r',hv,hfx⟩
 have r2:=r'.objLe h1 rfl (o':=.cells cs') rfl λb ⟨us,t,k1,k2,k3⟩=>⟨us,t,k1,h2.vrs k2,k3⟩
 refine ⟨v,x,g',_,he,hq,e',r2,hv,⟨?_,λi hi=>absurd hi (not_lt_zero i),λi o b hi=>absurd hi (not_lt_zero i)⟩⟩
 have:=hfx.len
 simpa using this
theorem VCx.freezeOpt {f:FuncId}{xs:List TV}{T:VT}{Q:TV→VT→Prop}(i j size:Nat)(h:VCx P G 0 f xs T λx T'=>(∃(id off n:Nat) (cs:List TV) (es:List (List TV)),T'.objs[i]?=some (.cells cs)∧cs[j]?=some (.row size id off n)∧bL T' size (.row size id off n)=some es∧Q x {(T'.kill id) with objs:=(T'.kill id).objs.set i (.cells (cs.set j (.vec size es .none)))})∨Q x T'):VCx P G 0 f xs T Q:=by
 intro g w us rw0 hG hx
 refine Calls.mono (h g w us rw0 hG hx) ?_
 rintro e w' ⟨v,x,g',T',he,hq | hq,e',r',hv,hfx⟩
 rotate_left
 ·exact ⟨v,x,g',T',he,hq,e',r',hv,hfx⟩
 obtain ⟨id,off,n,cs,es,h1,hj,h2,hq⟩:=hq
 obtain ⟨b,h3,⟨vs,t,h4,h5,h6⟩,h7⟩:=r'.obj i _ h1 rfl
 obtain ⟨u,hu,hvu⟩:=h5.at hj
 obtain ⟨g2,e2,r2,v2⟩:=nl r' h2 hvu
 have hne:id≠i:=by
  rintro rfl
  simp only [bL,h1] at h2
  cases h2
 have hi2:(T'.kill id).objs[i]?=some (.cells cs):=by
  simp only [VT.kill,getElem?_set]
  rw [if_neg hne];exact h1
 have hus:vs.set j u=vs:=by
  apply List.ext_getElem?
  intro k
  rw [getElem?_set]
  split
  ·rename_i hk;subst hk;rw [hu,if_pos (List.getElem?_eq_some_iff.1 hu).1]
  ·rfl
 have hin:∀b',g2.obj i=some b'→b'=b:=λb' hb'=>by
  have:=e2.obj i b h3
  rw [this] at hb';injection hb' with hb';exact hb'.symm
 have r3:RW g2 {(T'.kill id) with objs:=(T'.kill id).objs.set i (.cells (cs.set j (.vec size es .none)))} w':=by
  refine r2.objLeAt hi2 rfl rfl λb' hb' ⟨us',t',k1,k2,k3⟩=>⟨us',t',k1,?_,k3⟩
  rw [hin b' hb',h4] at k1
  injection k1 with k1;injection k1 with k1
  have:us'=vs:=by have:=congrArg Array.toList k1;simpa using this.symm
  subst this
  have:=k2.set j v2
  rwa [hus] at this
 refine ⟨v,x,g2,_,he,hq,e'.trans e2,r3,hv.mono e2,⟨?_,λi hi=>absurd hi (not_lt_zero i),λi o b hi=>absurd hi (not_lt_zero i)⟩⟩
 have:=hfx.len
 simp only [VT.kill,List.length_set];exact this
end
def Mq (pas n:Int)(w:Bs)(x:TV)(T:VT):Prop:=x=.tup []∧x6 pas n w T.objs T.tails
theorem PN {l:List MsgS}(h:gi l)(f g:Nat→Option Nat)(hg:g 0=some 0):(xL l).ren f g=xL l:=by
 cases l with
 |nil=>rfl
 |cons M l=>simp only [xL,TV.ren,hU h,Tok.ren,hg]
theorem x7 {cs:List TV}{n:Nat}(h:RwOk cs 0 n)(f g:Nat→Option Nat):aw f g cs=cs:=by
 have e:=h.ren f g
 simp only [VO.ren] at e
 injection e
theorem ji {w:Bs}{pas:Int}(hw:IsB w):gi (ba w pas).1:=(qE pas _ w (le_refl _) hw).2.2.1
theorem tJ {w:Bs}{pas:Int}(hw:IsB w){c:Nat}{s:Int}{d:Bs}(h:(ba w pas).2.2=some (c,s,d)):IsB d:=((qE pas _ w (le_refl _) hw).2.2.2 c s d h).1
theorem Sn {ds:List TV}{N:Nat}{pas n:Int}(hr:RwOk ds 0 N)(hn:Si n N):
  VCx prog aM 0 ip Fh (oG pas 0 0 n (.vec 1 [] .none) (.row 1 2 0 N) (.val (.slice none 0 0)) ds [] .ready none) (Mq pas n (an ds 0 N)):=by
 have hw:=hr.is
 refine VCx.keepQ 6 1 (le_refl _) (zero_le _) ?_
 refine aj ac aa (show bu prog aM bo from ai) (bO λp hp=> ?_) (UG _ (λT=>x6 pas n (an ds 0 N) (T.objs.take 6) T.tails) _) ?_
 ·obtain rfl:=mem_singleton.1 hp
  refine cd λK hK=>PM hr hn.1 hn.2 K ?_
  rintro e vs T ⟨he,rfl,hT⟩
  obtain ⟨h1,h2⟩:=hK T hT
  rcases he with rfl | rfl
  ·exact h1
  ·exact h2
 ·refine ⟨rfl,⟨rfl,rfl,rfl,trivial,rfl,rfl,rfl⟩,λT hT=> ?_⟩
  have key:Mq pas n (an ds 0 N) ((TV.tup []).ren (ap 6) (ap 1)) (T.keep 6 1):=by
   refine ⟨rfl,?_⟩
   obtain ⟨ds2,h0,h1,h2⟩:=hT
   have ha:=ji (pas:=pas) hw
   refine ⟨ds2,h0,?_,?_⟩
   ·show T.tails.take 1=_
    rw [h1,PJ]
   ·cases hf:(ba (an ds 0 N) pas).2.2 with
    |none=>
     rw [hf] at h2
     obtain ⟨a1,a2,a3⟩:=h2
     refine ⟨a1,a2,?_⟩
     show (T.objs.take 6).map _=_
     rw [a3]
     have e:=x7 h0 (ap 6) (ap 1)
     simp only [oG,map_cons,map_nil,iO,VO.ren,aw,Ds ha,e]
     rfl
    |some p=>
     obtain ⟨c,s,d⟩:=p
     rw [hf] at h2
     show (T.objs.take 6).map _=_
     simp only at h2
     rw [h2]
     have e:=x7 h0 (ap 6) (ap 1)
     have e2:=(tJ hw hf).ren (ap 6) (ap 1)
     simp only [oG,map_cons,map_nil,iO,VO.ren,aw,Ds ha,e,TV.ren,e2]
     rfl
  exact ⟨key,key⟩
theorem PO (pas n:Int):VCx prog ae 0 ip [.dead,.ptr 1 0] ⟨[iO pas (.val (.slice none 0 0)) 0 0 (.vec 1 [] .none) n,.cells [.ptr 0 0]],[]⟩ λx T'=>x=.tup []∧T'=⟨[iO pas (.val (.slice none 0 0)) 0 0 (.vec 1 [] .none) n,.cells [.ptr 0 0]],[]⟩:=
 aj ac aa ai ag (Sl pas n _) ⟨rfl,rfl⟩
def oJ:List Nat:= [0,1,3,4,5,7]
theorem So:∀ro ys T K,JS ro ys T K→VCx prog aM ro ip ys T K:=by
 intro ro ys T K hw
 obtain ⟨objs,tails⟩:=T
 unfold JS at hw
 split at hw
 ·rename_i pas N n o2 ds o6 σ ps asg body heq
  simp only at heq
  subst heq
  obtain ⟨⟨⟨rfl,rfl,ht,hr,hn⟩,⟨hp,hl⟩,rfl,rfl,rfl⟩,hk⟩:=hw
  simp only at ht
  subst ht
  have hw:=hr.is
  have hle:LEs σ (mz 57 [2,6] [.ptr 1 0,.ptr 4 0]):=by
   have:=od σ [2,6]
   rwa [hl,hp] at this
  have hrr:=λf g=>x7 (hr.sub (o:=0) (m:=0) (by omega)) f g
  refine VCx.loopLe (i:=7) rfl hle (zero_le _) ?_
  refine (VCx.lift (xs:=Fh) oJ [] bc (by decide) nodup_nil ?_ (by simp) (λ_ _=>zero_le _) rfl (T:=⟨[iO pas (.row 1 3 0 N) 0 0 (.vec 1 [] .none) n,.cells [.ptr 0 0],o2,.row ds,.cells [.val (.slice none 0 0)],.cells [.ptr 0 0],o6,.loop .ready none zm #[34,35] ep du],[]⟩) (Q:=Mq pas n (an ds 0 N)) ?_ ?_).mono ?_
  ·intro i hi
   simp only [oJ,mem_cons,not_mem_nil,or_false] at hi
   rcases hi with rfl | rfl | rfl | rfl | rfl | rfl<;>exact ⟨_,rfl,rfl⟩
  ·have e:(⟨[iO pas (.row 1 3 0 N) 0 0 (.vec 1 [] .none) n,.cells [.ptr 0 0],o2,.row ds,.cells [.val (.slice none 0 0)],.cells [.ptr 0 0],o6,.loop .ready none zm #[34,35] ep du],[]⟩:VT).give oJ []=oG pas 0 0 n (.vec 1 [] .none) (.row 1 2 0 N) (.val (.slice none 0 0)) ds [] .ready none:=by
    have e2:=hrr (aL oJ) (aL [])
    simp only [VT.give,oJ,map_cons,map_nil] at e2 ⊢
    show (⟨[_,_,VO.row (aw _ _ ds),_,_,_],[]⟩:VT)=_
    rw [e2]
    rfl
   rw [e];exact Sn hr hn
  ·rintro x T' ⟨_,ds2,_,_,h⟩
   refine ⟨?_,zero_le _⟩
   split at h
   ·obtain ⟨_,_,h⟩:=h
    rw [h];exact le_refl _
   ·rw [h];exact le_refl _
  ·rintro z T' ⟨x,T'',⟨rfl,ds2,h0,h1,h2⟩,rfl,rfl⟩
   have ha:=ji (pas:=pas) hw
   have e:=x7 h0 (aJ 8 oJ) (aJ 0 [])
   have ex:∀f,(xL (ba (an ds 0 N) pas).1).ren f (aJ 0 [])=xL (ba (an ds 0 N) pas).1:=λf=>PN ha f _ rfl
   obtain ⟨os,tls⟩:=T''
   simp only at h1 h2
   subst h1
   cases hf:(ba (an ds 0 N) pas).2.2 with
   |none=>
    rw [hf] at h2
    obtain ⟨a1,a2,rfl⟩:=h2
    rw [show qF (an ds 0 N) pas=true by unfold qF;rw [hf];rfl,cond_true] at hk
    have hk:=hk ds2 _ _ ⟨⟨a1,a2⟩,rfl,rfl⟩
    have e1:(oG pas 0 0 (n+(ba (an ds 0 N) pas).1.length) (.vec 1 [] .none) (.row 1 2 0 (ba (an ds 0 N) pas).2.1.length) (xL (ba (an ds 0 N) pas).1) ds2 [] .ready none).objs.map (VO.ren (aJ 8 oJ) (aJ 0 []))= [iO pas (.row 1 3 0 (ba (an ds 0 N) pas).2.1.length) 0 0 (.vec 1 [] .none) (n+(ba (an ds 0 N) pas).1.length),.cells [.ptr 0 0],.row ds2,.cells [xL (ba (an ds 0 N) pas).1],.cells [.ptr 0 0],.loop .ready none zm #[34,35] ep du]:=by
     show [_,_,VO.row (aw _ _ ds2),VO.cells [(xL _).ren _ _],_,_]=_
     rw [e,ex];rfl
    change K (.tup []) ⟨bJ _ oJ ((oG pas 0 0 (n+(ba (an ds 0 N) pas).1.length) (.vec 1 [] .none) (.row 1 2 0 (ba (an ds 0 N) pas).2.1.length) (xL (ba (an ds 0 N) pas).1) ds2 [] .ready none).objs.map (VO.ren (aJ 8 oJ) (aJ 0 []))),_⟩
    rw [e1]
    simp only [bJ,oJ,List.set_cons_zero,List.set_cons_succ,append_nil,nil_append]
    exact hk
   |some p=>
    obtain ⟨c,s,d⟩:=p
    rw [hf] at h2
    simp only at h2
    subst h2
    rw [show qF (an ds 0 N) pas=false by unfold qF;rw [hf];rfl,cond_false] at hk
    have hk:=hk ds2 _ _ ⟨h0,rfl,rfl⟩
    have ec:qG (an ds 0 N) pas=c:=by unfold qG;rw [hf]
    have es:jI (an ds 0 N) pas=s:=by unfold jI;rw [hf]
    have ed:iq (an ds 0 N) pas=d:=by unfold iq;rw [hf]
    rw [ec,es,ed] at hk
    have e2:=(tJ hw hf).ren (aJ 8 oJ) (aJ 0 [])
    have e1:(oG pas (ofNat (c+1)) s (n+(ba (an ds 0 N) pas).1.length) (.vec 1 d .none) (.val (.slice none 0 0)) (xL (ba (an ds 0 N) pas).1) ds2 [] .done (some (.exit 0))).objs.map (VO.ren (aJ 8 oJ) (aJ 0 []))= [iO pas (.val (.slice none 0 0)) (ofNat (c+1)) s (.vec 1 d .none) (n+(ba (an ds 0 N) pas).1.length),.cells [.ptr 0 0],.row ds2,.cells [xL (ba (an ds 0 N) pas).1],.cells [.ptr 0 0],.loop .done (some (.exit 0)) zm #[34,35] ep du]:=by
     show [VO.cells [_,_,_,_,_,.vec 1 (br _ _ d) _,_],_,VO.row (aw _ _ ds2),VO.cells [(xL _).ren _ _],_,_]=_
     rw [e,ex,e2];rfl
    change K (.tup []) ⟨bJ _ oJ ((oG pas (ofNat (c+1)) s (n+(ba (an ds 0 N) pas).1.length) (.vec 1 d .none) (.val (.slice none 0 0)) (xL (ba (an ds 0 N) pas).1) ds2 [] .done (some (.exit 0))).objs.map (VO.ren (aJ 8 oJ) (aJ 0 []))),_⟩
    rw [e1]
    simp only [bJ,oJ,List.set_cons_zero,List.set_cons_succ,append_nil,nil_append]
    exact hk
 ·rename_i pas n o2 o3 o5 o6 heq
  simp only at heq
  subst heq
  obtain ⟨⟨rfl,rfl⟩,hk⟩:=hw
  refine (VCx.lift (xs:= [.dead,.ptr 1 0]) [0,4] [] bc (by decide) nodup_nil ?_ (by simp) (λ_ _=>zero_le _) rfl (Q:=λx T'=>x=.tup []∧T'=⟨[iO pas (.val (.slice none 0 0)) 0 0 (.vec 1 [] .none) n,.cells [.ptr 0 0]],[]⟩) (VCx.anyG (PO pas n)) ?_).mono ?_
  ·intro i hi
   simp only [mem_cons,not_mem_nil,or_false] at hi
   rcases hi with rfl | rfl<;>exact ⟨_,rfl,rfl⟩
  ·rintro x T' ⟨_,rfl⟩
   exact ⟨le_refl _,zero_le _⟩
  ·rintro z T' ⟨x,T'',⟨rfl,rfl⟩,rfl,rfl⟩
   simp only [VT.back,map_cons,map_nil,bJ,append_nil]
   exact hk
 ·exact hw.elim
end Go.Proofs.YtaijldpbpimdlaaGreatDoor