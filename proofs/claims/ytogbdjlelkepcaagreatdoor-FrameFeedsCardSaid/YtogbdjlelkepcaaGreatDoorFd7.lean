/-Part 7 of the proof of frameFeedsCard_holds:MsRve,MsRvf,MsRvg ... No condition. -/
import Derived.Test.YtogbdjlelkepcaaGreatDoorFd1
import Derived.Test.YtogbdjlelkepcaaGreatDoorFd2
import Derived.Test.YtogbdjlelkepcaaGreatDoorFd3
import Derived.Test.YtogbdjlelkepcaaGreatDoorFd4
import Derived.Test.YtogbdjlelkepcaaGreatDoorFd5
import Derived.Test.YtogbdjlelkepcaaGreatDoorFd6
set_option maxRecDepth 100000
namespace Go.Proofs.YtogbdjlelkepcaaGreatDoor
open Go.RowKit
open Go.BinOp (eql neq)
open _root_.BitVec (ofInt toNat)
open Go.Builtin (zeroCells)
open Go.Calls (mono)
open _root_.Int (ofNat ofNat_inj)
open Go.IntKind (i64 u32 u64 u8 wrap)
open _root_.List (append_nil flatten flatten_cons getElem?_set length length_append length_cons length_drop length_map length_nil map_cons map_nil mem_append mem_cons mem_map mem_singleton nil_append nodup_nil not_mem_nil toArray)
open _root_.Nat (beq beq_refl ble ble_eq_true_of_le le_of_ble_eq_true le_refl mul_one not_lt_zero zero_add zero_le zero_mul)
open _root_.Option (getD_some)
open Go.Proofs.Tryz (prog underlying22)
open Go.Value (oneCell')
def Gp:be:=λro ys T K=>match ys with
 |[.row 1 k off n]=>match T.objs[k]? with
  |some (.row cs)=>(ble ro k=true∧RwOk cs off n)∧K (.ptr T.objs.length 0) {T with objs:=T.objs++ [aN (aD cs off n) 0 0]}
  |_=>aR 80 default ys
 |_=>aR 82 default ys
def OU:be:=λro ys T K=>match ys with
 |[.row 1 k off n]=>match T.objs[k]? with
  |some (.row cs)=>(ble ro k=true∧RwOk cs off n)∧K (.vec 1 (aD cs off n) .none) T
  |_=>aR 80 default ys
 |_=>aR 82 default ys
abbrev ql (v:Bs)(v_19:Bs)(v_24:Bs):VO:=(HB (aK v) (jd v_19) (fL v_19) (je v_19) (jf v_19) (jg v_19) (aK v_24))
abbrev qm (v_19:Bs):VO:=(mG (jd v_19) (fL v_19) (je v_19) (jf v_19) (jg v_19))
abbrev kN (v_19:Bs):VO:=(pV (fg v_19) (fK v_19))
abbrev B5 (v:Bs)(v_19:Bs)(v_24:Bs):TV:=(HC (aK v) (jd v_19) (fL v_19) (je v_19) (jf v_19) (jg v_19) (aK v_24))
theorem Uu (cs:List TV)(off n:Nat)(Q:TV→VT→Prop):au prog ah (aI [(kS,Gp),(ne,mm .i64 2),(j5,AS),(HU,x4),(jD,mj),(o8,zI),(ub,Gf)]) (bc [(999999,.dead,none)]) 300 aG 0 Ge [.row 1 0 off n] (bC (.row cs)) Q=
 (((@Eq (Bool) true true)∧
 RwOk (cs) (off) (n))∧
 (((@Eq (Bool) true true)∧
 IsB (aD cs off n))∧
 (∀z:Int,(∀bz:Bs,(∀az:Int,(∀ez:Int,(((@Eq (Int) (z) (aw (2:Nat) (aD cs off n) (0:Int)))∧
 ((@Eq (Bs) (bz) (aC (↑(2:Nat):Int) (aD cs off n) (0:Int)))∧
 (@Eq (Int) (ez) (ar (↑(2:Nat):Int) (aD cs off n) (0:Int)))))→(((@Eq (Bool) true true)∧
 IsB (bz))∧
 (∀v:Bs,(∀bz_10:Bs,(∀az_11:Int,(∀ez_12:Int,(((@Eq (Bs) (v) (bv z bz ez))∧
 ((@Eq (Bs) (bz_10) (aC z bz ez))∧
 (@Eq (Int) (ez_12) (ar z bz ez))))→(((@Eq (Bool) true true)∧
 IsB (bz_10))∧
 (∀z_14:Int,(∀bz_15:Bs,(∀az_16:Int,(∀ez_17:Int,(((@Eq (Int) (z_14) (aw (2:Nat) bz_10 ez_12))∧
 ((@Eq (Bs) (bz_15) (aC (↑(2:Nat):Int) bz_10 ez_12))∧
 (@Eq (Int) (ez_17) (ar (↑(2:Nat):Int) bz_10 ez_12))))→(((@Eq (Bool) true true)∧
 IsB (bz_15))∧
 (∀v_19:Bs,(∀bz_20:Bs,(∀az_21:Int,(∀ez_22:Int,(((@Eq (Bs) (v_19) (bv z_14 bz_15 ez_17))∧
 ((@Eq (Bs) (bz_20) (aC z_14 bz_15 ez_17))∧
 (@Eq (Int) (ez_22) (ar z_14 bz_15 ez_17))))→(((@Eq (Bool) true true)∧
 IsB (bz_20))∧
 (∀v_24:Bs,(∀bz_25:Bs,(∀az_26:Int,(∀ez_27:Int,(((@Eq (Bs) (v_24) (bv (bo bz_20 ez_22) bz_20 ez_22))∧
 ((@Eq (Bs) (bz_25) (aC (bo bz_20 ez_22) bz_20 ez_22))∧
 (@Eq (Int) (ez_27) (ar (bo bz_20 ez_22) bz_20 ez_22))))→(((@Eq (Bool) true true)∧
 IsB (bz_25))∧
 (bif aq neq (k6 ez_27 (0:Int))
 then Q N4 ⟨[(bI cs),eX,jQ,(.cells [aF,(an bz_25),(ae az_26),(ae ez_27)]),ib,eX,jQ],[]⟩
 else (IsB (v)∧
 (bif fQ v
 then (IsB (v_24)∧
 (bif fQ v_24
 then (bif aq eql (k6 (↑(length v_19):Int) (0:Int))
 then (bif aq eql (k6 (↑(length (aK v_24)):Int) (0:Int))
 then Q (kF (aK v) (aK v_24)) ⟨[(bI cs),(df (aK v) (aK v_24)),bh,(.cells [aF,(an bz_25),(ae az_26),(ae ez_27)]),ib,(df (aK v) (aK v_24)),(iB v),(ja v_24)],[]⟩
 else (IsB (v_19)∧
 (bif gL v_19
 then (bif decide ((↑(length (aK v_24)):Int)>(0:Int))
 then (bif decide ((↑(length (aK v_24)):Int)>(0:Int))
 then Q (B5 v v_19 v_24) ⟨[(bI cs),(ql v v_19 v_24),bh,(.cells [aF,(an bz_25),(ae az_26),(ae ez_27)]),ib,(ql v v_19 v_24),(iB v),(ja v_24),(qm v_19),b8],[]⟩
 else Q (kF (aK v) (aK v_24)) ⟨[(bI cs),(df (aK v) (aK v_24)),bh,(.cells [aF,(an bz_25),(ae az_26),(ae ez_27)]),ib,(df (aK v) (aK v_24)),(iB v),(ja v_24),(qm v_19),b8],[]⟩)
 else (bif decide ((↑(length (aK v_24)):Int)>(0:Int))
 then Q (B5 v v_19 v_24) ⟨[(bI cs),(ql v v_19 v_24),bh,(.cells [aF,(an bz_25),(ae az_26),(ae ez_27)]),ib,(ql v v_19 v_24),(iB v),(ja v_24),(qm v_19),b8],[]⟩
 else Q (kF (aK v) (aK v_24)) ⟨[(bI cs),(df (aK v) (aK v_24)),bh,(.cells [aF,(an bz_25),(ae az_26),(ae ez_27)]),ib,(df (aK v) (aK v_24)),(iB v),(ja v_24),(qm v_19),b8],[]⟩))
 else (bif decide ((↑(length (aK v_24)):Int)>(0:Int))
 then Q (pU (fg v_19) (fK v_19)) ⟨[(bI cs),eX,(kN v_19),(.cells [aF,(an bz_25),(ae az_26),(ae ez_27)]),ib,(df (aK v) (aK v_24)),(iB v),(ja v_24),gU,(kN v_19)],[]⟩
 else (bif aq neq (k6 (fg v_19) (3:Int))
 then Q (pU (fg v_19) (fK v_19)) ⟨[(bI cs),eX,(kN v_19),(.cells [aF,(an bz_25),(ae az_26),(ae ez_27)]),ib,(df (aK v) (aK v_24)),(iB v),(ja v_24),gU,(kN v_19)],[]⟩
 else (bif decide ((↑(length (aK v_24)):Int)>(0:Int))
 then Q (BD (aK v) (aK v_24)) ⟨[(bI cs),(pT (aK v) (aK v_24)),bh,(.cells [aF,(an bz_25),(ae az_26),(ae ez_27)]),ib,(pT (aK v) (aK v_24)),(iB v),(ja v_24),gU,(kN v_19)],[]⟩
 else Q (kF (aK v) (aK v_24)) ⟨[(bI cs),(df (aK v) (aK v_24)),bh,(.cells [aF,(an bz_25),(ae az_26),(ae ez_27)]),ib,(df (aK v) (aK v_24)),(iB v),(ja v_24),gU,(kN v_19)],[]⟩))))))
 else (IsB (v_19)∧
 (bif gL v_19
 then (bif decide ((↑(length (aK v_24)):Int)>(0:Int))
 then (bif decide ((↑(length (aK v_24)):Int)>(0:Int))
 then Q (B5 v v_19 v_24) ⟨[(bI cs),(ql v v_19 v_24),bh,(.cells [aF,(an bz_25),(ae az_26),(ae ez_27)]),ib,(ql v v_19 v_24),(iB v),(ja v_24),(qm v_19),b8],[]⟩
 else Q (kF (aK v) (aK v_24)) ⟨[(bI cs),(df (aK v) (aK v_24)),bh,(.cells [aF,(an bz_25),(ae az_26),(ae ez_27)]),ib,(df (aK v) (aK v_24)),(iB v),(ja v_24),(qm v_19),b8],[]⟩)
 else (bif decide ((↑(length (aK v_24)):Int)>(0:Int))
 then Q (B5 v v_19 v_24) ⟨[(bI cs),(ql v v_19 v_24),bh,(.cells [aF,(an bz_25),(ae az_26),(ae ez_27)]),ib,(ql v v_19 v_24),(iB v),(ja v_24),(qm v_19),b8],[]⟩
 else Q (kF (aK v) (aK v_24)) ⟨[(bI cs),(df (aK v) (aK v_24)),bh,(.cells [aF,(an bz_25),(ae az_26),(ae ez_27)]),ib,(df (aK v) (aK v_24)),(iB v),(ja v_24),(qm v_19),b8],[]⟩))
 else (bif decide ((↑(length (aK v_24)):Int)>(0:Int))
 then Q (pU (fg v_19) (fK v_19)) ⟨[(bI cs),eX,(kN v_19),(.cells [aF,(an bz_25),(ae az_26),(ae ez_27)]),ib,(df (aK v) (aK v_24)),(iB v),(ja v_24),gU,(kN v_19)],[]⟩
 else (bif aq neq (k6 (fg v_19) (3:Int))
 then Q (pU (fg v_19) (fK v_19)) ⟨[(bI cs),eX,(kN v_19),(.cells [aF,(an bz_25),(ae az_26),(ae ez_27)]),ib,(df (aK v) (aK v_24)),(iB v),(ja v_24),gU,(kN v_19)],[]⟩
 else (bif decide ((↑(length (aK v_24)):Int)>(0:Int))
 then Q (BD (aK v) (aK v_24)) ⟨[(bI cs),(pT (aK v) (aK v_24)),bh,(.cells [aF,(an bz_25),(ae az_26),(ae ez_27)]),ib,(pT (aK v) (aK v_24)),(iB v),(ja v_24),gU,(kN v_19)],[]⟩
 else Q (kF (aK v) (aK v_24)) ⟨[(bI cs),(df (aK v) (aK v_24)),bh,(.cells [aF,(an bz_25),(ae az_26),(ae ez_27)]),ib,(df (aK v) (aK v_24)),(iB v),(ja v_24),gU,(kN v_19)],[]⟩))))))
 else Q BC ⟨[(bI cs),eX,pS,(.cells [aF,(an bz_25),(ae az_26),(ae ez_27)]),ib,(N2 (aK v)),(iB v),(ja v_24),eX,pS],[]⟩))
 else Q BC ⟨[(bI cs),eX,pS,(.cells [aF,(an bz_25),(ae az_26),(ae ez_27)]),ib,eX,(iB v),eX,pS],[]⟩))))))))))))))))))))))))))))))))))):=by kernel_rfl
theorem Uv (cs:List TV)(off n:Nat)(pas:Int)(Q:TV→VT→Prop):au prog ah (aI [(kS,Gp),(jb,mm .i64 1),(ne,mm .i64 2),(BS,mm .u32 4),(kT,nJ),(nE,Ou)]) (bc [(999999,.dead,none)]) 300 aG 0 FI [.row 1 0 off n,.val (.int .i64 pas)] (bC (.row cs)) Q=
 (bif decide ((↑n:Int)<(10:Int))
 then Q lO ⟨[(bI cs),bg,gB,bg,gB],[]⟩
 else (((@Eq (Bool) true true)∧
 RwOk (cs) (off) (n))∧
 (((@Eq (Bool) true true)∧
 IsB (aD cs off n))∧
 (∀z:Int,(∀bz:Bs,(∀az:Int,(∀ez:Int,(((@Eq (Int) (z) (aw (1:Nat) (aD cs off n) (0:Int)))∧
 ((@Eq (Bs) (bz) (aC (↑(1:Nat):Int) (aD cs off n) (0:Int)))∧
 (@Eq (Int) (ez) (ar (↑(1:Nat):Int) (aD cs off n) (0:Int)))))→(bif aq neq (k6 z (4:Int))
 then Q (HP [[(.val (.int .u8 0))],[(.val (.int .u8 4))]]) ⟨[(bI cs),bg,(BL [[(.val (.int .u8 0))],[(.val (.int .u8 4))]]),(.cells [aF,(an bz),(ae az),(ae ez)]),bg,(BL [[(.val (.int .u8 0))],[(.val (.int .u8 4))]])],[]⟩
 else (((@Eq (Bool) true true)∧
 IsB (bz))∧
 (∀z_10:Int,(∀bz_11:Bs,(∀az_12:Int,(∀ez_13:Int,(((@Eq (Int) (z_10) (aw (2:Nat) bz ez))∧
 ((@Eq (Bs) (bz_11) (aC (↑(2:Nat):Int) bz ez))∧
 (@Eq (Int) (ez_13) (ar (↑(2:Nat):Int) bz ez))))→(((@Eq (Bool) true true)∧
 IsB (bz_11))∧
 (∀z_15:Int,(∀bz_16:Bs,(∀az_17:Int,(∀ez_18:Int,(((@Eq (Int) (z_15) (aw (2:Nat) bz_11 ez_13))∧
 ((@Eq (Bs) (bz_16) (aC (↑(2:Nat):Int) bz_11 ez_13))∧
 (@Eq (Int) (ez_18) (ar (↑(2:Nat):Int) bz_11 ez_13))))→(((@Eq (Bool) true true)∧
 IsB (bz_16))∧
 (∀z_20:Int,(∀bz_21:Bs,(∀az_22:Int,(∀ez_23:Int,(((@Eq (Int) (z_20) (aw (4:Nat) bz_16 ez_18))∧
 ((@Eq (Bs) (bz_21) (aC (↑(4:Nat):Int) bz_16 ez_18))∧
 (@Eq (Int) (ez_23) (ar (↑(4:Nat):Int) bz_16 ez_18))))→(((@Eq (Bool) true true)∧
 IsB (bz_21))∧
 (∀z_25:Int,(∀bz_26:Bs,(∀az_27:Int,(∀ez_28:Int,(((@Eq (Int) (z_25) (aw (1:Nat) bz_21 ez_23))∧
 ((@Eq (Bs) (bz_26) (aC (↑(1:Nat):Int) bz_21 ez_23))∧
 (@Eq (Int) (ez_28) (ar (↑(1:Nat):Int) bz_21 ez_23))))→(bif aq eql (k6 z_10 (0:Int))
 then Q u3 ⟨[(bI cs),bg,p9,(.cells [aF,(an bz_26),(ae az_27),(ae ez_28)]),(bP z_10 z_15 z_20),bg,p9],[]⟩
 else (bif decide (pas≥(1:Int))
 then (bif aq neq (k6 z_10 pas)
 then Q u3 ⟨[(bI cs),bg,p9,(.cells [aF,(an bz_26),(ae az_27),(ae ez_28)]),(bP z_10 z_15 z_20),bg,p9],[]⟩
 else (bif aq eql (k6 z_15 (0:Int))
 then (bif aq eql (aT (Value.int u32 z_20) (Value.int u32 (0:Int)))
 then Q pZ ⟨[(bI cs),bg,kI,(.cells [aF,(an bz_26),(ae az_27),(ae ez_28)]),(bP z_10 z_15 z_20),bg,kI],[]⟩
 else (((@Eq (Bool) true true)∧
 IsB (bz_26))∧
 (bif aq neq (k6 z_25 (bo bz_26 ez_28))
 then Q lO ⟨[(bI cs),bg,gB,(.cells [aF,(an bz_26),(ae az_27),(ae ez_28)]),(bP z_10 z_15 z_20),bg,gB],[]⟩
 else (((@Eq (Bool) true true)∧
 IsB (bz_26))∧
 (∀bz_30:Bs,(∀az_31:Int,(∀ez_32:Int,(bif eA bz_26 ez_28
 then Q (Hx z_10 z_15 z_20 (gj bz_26 ez_28)) ⟨[(bI cs),(qB z_10 z_15 z_20 (gj bz_26 ez_28)),bh,(.cells [aF,(an bz_30),(ae az_31),(ae ez_32)]),(qB z_10 z_15 z_20 (gj bz_26 ez_28))],[]⟩
 else Q (pY (gO bz_26 ez_28)) ⟨[(bI cs),bg,(tS (gO bz_26 ez_28)),(.cells [aF,(an bz_30),(ae az_31),(ae ez_32)]),(bP z_10 z_15 z_20),bg,(tS (gO bz_26 ez_28))],[]⟩))))))))
 else (bif decide (z_15≥(3:Int))
 then (bif !decide (z_15≤(65535:Int))
 then Q kJ ⟨[(bI cs),bg,gX,(.cells [aF,(an bz_26),(ae az_27),(ae ez_28)]),(bP z_10 z_15 z_20),bg,gX],[]⟩
 else (bif aq eql (aT (Value.int u32 z_20) (Value.int u32 (0:Int)))
 then Q pZ ⟨[(bI cs),bg,kI,(.cells [aF,(an bz_26),(ae az_27),(ae ez_28)]),(bP z_10 z_15 z_20),bg,kI],[]⟩
 else (((@Eq (Bool) true true)∧
 IsB (bz_26))∧
 (bif aq neq (k6 z_25 (bo bz_26 ez_28))
 then Q lO ⟨[(bI cs),bg,gB,(.cells [aF,(an bz_26),(ae az_27),(ae ez_28)]),(bP z_10 z_15 z_20),bg,gB],[]⟩
 else (((@Eq (Bool) true true)∧
 IsB (bz_26))∧
 (∀bz_30:Bs,(∀az_31:Int,(∀ez_32:Int,(bif eA bz_26 ez_28
 then Q (Hx z_10 z_15 z_20 (gj bz_26 ez_28)) ⟨[(bI cs),(qB z_10 z_15 z_20 (gj bz_26 ez_28)),bh,(.cells [aF,(an bz_30),(ae az_31),(ae ez_32)]),(qB z_10 z_15 z_20 (gj bz_26 ez_28))],[]⟩
 else Q (pY (gO bz_26 ez_28)) ⟨[(bI cs),bg,(tS (gO bz_26 ez_28)),(.cells [aF,(an bz_30),(ae az_31),(ae ez_32)]),(bP z_10 z_15 z_20),bg,(tS (gO bz_26 ez_28))],[]⟩)))))))))
 else Q kJ ⟨[(bI cs),bg,gX,(.cells [aF,(an bz_26),(ae az_27),(ae ez_28)]),(bP z_10 z_15 z_20),bg,gX],[]⟩)))
 else (bif aq eql (k6 z_15 (0:Int))
 then (bif aq eql (aT (Value.int u32 z_20) (Value.int u32 (0:Int)))
 then Q pZ ⟨[(bI cs),bg,kI,(.cells [aF,(an bz_26),(ae az_27),(ae ez_28)]),(bP z_10 z_15 z_20),bg,kI],[]⟩
 else (((@Eq (Bool) true true)∧
 IsB (bz_26))∧
 (bif aq neq (k6 z_25 (bo bz_26 ez_28))
 then Q lO ⟨[(bI cs),bg,gB,(.cells [aF,(an bz_26),(ae az_27),(ae ez_28)]),(bP z_10 z_15 z_20),bg,gB],[]⟩
 else (((@Eq (Bool) true true)∧
 IsB (bz_26))∧
 (∀bz_30:Bs,(∀az_31:Int,(∀ez_32:Int,(bif eA bz_26 ez_28
 then Q (Hx z_10 z_15 z_20 (gj bz_26 ez_28)) ⟨[(bI cs),(qB z_10 z_15 z_20 (gj bz_26 ez_28)),bh,(.cells [aF,(an bz_30),(ae az_31),(ae ez_32)]),(qB z_10 z_15 z_20 (gj bz_26 ez_28))],[]⟩
 else Q (pY (gO bz_26 ez_28)) ⟨[(bI cs),bg,(tS (gO bz_26 ez_28)),(.cells [aF,(an bz_30),(ae az_31),(ae ez_32)]),(bP z_10 z_15 z_20),bg,(tS (gO bz_26 ez_28))],[]⟩))))))))
 else (bif decide (z_15≥(3:Int))
 then (bif !decide (z_15≤(65535:Int))
 then Q kJ ⟨[(bI cs),bg,gX,(.cells [aF,(an bz_26),(ae az_27),(ae ez_28)]),(bP z_10 z_15 z_20),bg,gX],[]⟩
 else (bif aq eql (aT (Value.int u32 z_20) (Value.int u32 (0:Int)))
 then Q pZ ⟨[(bI cs),bg,kI,(.cells [aF,(an bz_26),(ae az_27),(ae ez_28)]),(bP z_10 z_15 z_20),bg,kI],[]⟩
 else (((@Eq (Bool) true true)∧
 IsB (bz_26))∧
 (bif aq neq (k6 z_25 (bo bz_26 ez_28))
 then Q lO ⟨[(bI cs),bg,gB,(.cells [aF,(an bz_26),(ae az_27),(ae ez_28)]),(bP z_10 z_15 z_20),bg,gB],[]⟩
 else (((@Eq (Bool) true true)∧
 IsB (bz_26))∧
 (∀bz_30:Bs,(∀az_31:Int,(∀ez_32:Int,(bif eA bz_26 ez_28
 then Q (Hx z_10 z_15 z_20 (gj bz_26 ez_28)) ⟨[(bI cs),(qB z_10 z_15 z_20 (gj bz_26 ez_28)),bh,(.cells [aF,(an bz_30),(ae az_31),(ae ez_32)]),(qB z_10 z_15 z_20 (gj bz_26 ez_28))],[]⟩
 else Q (pY (gO bz_26 ez_28)) ⟨[(bI cs),bg,(tS (gO bz_26 ez_28)),(.cells [aF,(an bz_30),(ae az_31),(ae ez_32)]),(bP z_10 z_15 z_20),bg,(tS (gO bz_26 ez_28))],[]⟩)))))))))
 else Q kJ ⟨[(bI cs),bg,gX,(.cells [aF,(an bz_26),(ae az_27),(ae ez_28)]),(bP z_10 z_15 z_20),bg,gX],[]⟩))))))))))))))))))))))))))))))))))))):=by kernel_rfl
theorem Rp (cs:List TV)(off n:Nat)(Q:TV→VT→Prop):au prog ah (aI [(lQ,OU)]) aM 300 aG 0 kS [.row 1 0 off n] (bC (.row cs)) Q=
 (((@Eq (Bool) true true)∧
 RwOk (cs) (off) (n))∧
 Q eG ⟨[(bI cs),(.cells [aF,(an (aD cs off n)),aE,aE])],[]⟩):=by kernel_rfl
theorem Uw (cs W:List TV)(off n:Nat)(Q:TV→VT→Prop):au prog ah aZ (bc [(7,.row 1 1 0 n,some λT=>T.newRow W)]) 300 aG 0 lQ [.row 1 0 off n] (bC (.row cs)) Q=
 (br prog (λ_=>.none) 0 (oX cs) (.call ⟨(.builtin .append),#[(.tmp 5),(.tmp 6)],#[22,22]⟩) [(5,lP),(6,(.row 1 0 off n))] (oW n) ⟨[(bI cs),(bI W)],[]⟩∧
 Q (oW n) ⟨[(bI cs),(bI W)],[]⟩):=by kernel_rfl
theorem Rq (cs:List TV)(off:Nat)(Q:TV→VT→Prop):au prog ah aZ (bc [(7,.vec 1 [] .full,some λT=>T)]) 300 aG 0 lQ [.row 1 0 off 0] (bC (.row cs)) Q=
 (br prog (λ_=>.none) 0 (oX cs) (.call ⟨(.builtin .append),#[(.tmp 5),(.tmp 6)],#[22,22]⟩) [(5,lP),(6,(.row 1 0 off 0))] lP (oX cs)∧
 Q lP (oX cs)):=by kernel_rfl
abbrev Io:=44
def Ny:be:=λro ys T K=>match ys with
 |[.row 1 k off n,.val (.int .i64 16)]=>match T.objs[k]? with
  |some (.row cs)=>(ble ro k=true∧RwOk cs off n∧ble 19 n=true∧off=0)∧K (.tup [.val (.int .i64 (fG (aD cs off n))),.val (.bool true)]) T
  |_=>aR 80 default ys
 |_=>aR 86 default ys
def Eh:be:=λro ys T K=>match ys with
 |[.row 1 k off n]=>match T.objs[k]? with
  |some (.row cs)=>(ble ro k=true∧RwOk cs off n∧ble 19 n=true∧off=0)∧bif cK (aD cs off n) then K (.tup [.val (.int .i64 (bA (aD cs off n))),.val (.int .i64 (cU (aD cs off n))),cD 0 0 []]) T else K (.tup [.val (.int .i64 0),.val (.int .i64 0),cD 1 (ga (aD cs off n)) (fH (aD cs off n))]) T
  |_=>aR 80 default ys
 |_=>aR 83 default ys
def Kx:be:=λro ys T K=>match ys with
 |[.row 1 k off n,.val (.int .i64 pas)]=>match T.objs[k]? with
  |some (.row cs)=>(ble ro k=true∧RwOk cs off n)∧bif gl (aD cs off n) pas then K (.tup [.agg [.val (.int .i64 (zJ (aD cs off n) pas)),.val (.int .i64 (zK (aD cs off n) pas)),.val (.int .u32 (zL (aD cs off n) pas)),.vec 2 (pp (aD cs off n) pas) .none],cD 0 0 []]) T else K (.tup [.agg [.val (.int .i64 0),.val (.int .i64 0),.val (.int .u32 0),.vec 2 [] .none],cD 2 (pq (aD cs off n) pas) (j9 (aD cs off n) pas)]) T
  |_=>aR 80 default ys
 |_=>aR 83 default ys
def Ky:be:=λro ys T K=>match ys with
 |[.row 1 k off n]=>match T.objs[k]? with
  |some (.row cs)=>(ble ro k=true∧RwOk cs off n)∧bif gM (aD cs off n) then K (.tup [.agg [.vec 2 (zN (aD cs off n)) .none,.val (.int .i64 (zP (aD cs off n))),.vec 1 (zQ (aD cs off n)) .none,.val (.int .u32 (zS (aD cs off n))),.val (.int .i64 (zT (aD cs off n))),.val (.bool (zU (aD cs off n))),.vec 2 (zV (aD cs off n)) .none],cD 0 0 []]) T
   else K (.tup [.agg [.vec 2 [] .none,.val (.int .i64 0),.vec 1 [] .none,.val (.int .u32 0),.val (.int .i64 0),.val (.bool false),.vec 2 [] .none],cD 3 (pt (aD cs off n)) (ka (aD cs off n))]) T
  |_=>aR 80 default ys
 |_=>aR 83 default ys
def Kz:be:=λro ys T K=>match ys with
 |[.row 1 k off n]=>match T.objs[k]? with
  |some (.row cs)=>(ble ro k=true∧RwOk cs off n∧off=19∧ble 2 n=true)∧bif fv (aD cs off n) then K (.tup [cD (uj (aD cs off n)) (un (aD cs off n)) (uo (aD cs off n)),.val (.bool true)]) T else K (.tup [cD 0 0 [],.val (.bool false)]) T
  |_=>aR 80 default ys
 |_=>aR 83 default ys
def iu (c0 c1 c2 c3 c4 c5 c6 c7 c8 c9 c10 c11 c12 c13 c14 c15 c16 c17 c18:TV)(w:List TV):List TV:=c0::c1::c2::c3::c4::c5::c6::c7::c8::c9::c10::c11::c12::c13::c14::c15::c16::c17::c18::w
def yq (z0 z1 z2 z3 z4 z5 z6 z7 z8 z9 z10 z11 z12 z13 z14 z15 z16 z17 z18:Int)(w:List TV):List TV:=.val (.int .u8 z0):: .val (.int .u8 z1):: .val (.int .u8 z2):: .val (.int .u8 z3):: .val (.int .u8 z4):: .val (.int .u8 z5):: .val (.int .u8 z6):: .val (.int .u8 z7):: .val (.int .u8 z8):: .val (.int .u8 z9):: .val (.int .u8 z10):: .val (.int .u8 z11):: .val (.int .u8 z12):: .val (.int .u8 z13):: .val (.int .u8 z14):: .val (.int .u8 z15):: .val (.int .u8 z16):: .val (.int .u8 z17):: .val (.int .u8 z18)::w
abbrev yr (c0:TV)(c1:TV)(c2:TV)(c3:TV)(c4:TV)(c5:TV)(c6:TV)(c7:TV)(c8:TV)(c9:TV)(c10:TV)(c11:TV)(c12:TV)(c13:TV)(c14:TV)(c15:TV)(c16:TV)(c17:TV)(c18:TV)(z0:Int)(z1:Int)(w:List TV)(m:Nat):VT:=(Xw ([(c0),(c1),(c2),(c3),(c4),(c5),(c6),(c7),(c8),(c9),(c10),(c11),(c12),(c13),(c14),(c15),(c16),(c17),(c18),(.val (.int .u8 (z0))),(.val (.int .u8 (z1)))]++w) (wrap i64 z0) (wrap i64 z1) (aD (iu c0 c1 c2 c3 c4 c5 c6 c7 c8 c9 c10 c11 c12 c13 c14 c15 c16 c17 c18 (TV.val (Value.int u8 z0)::TV.val (Value.int u8 z1)::w)) (21:Nat) m) (wrap i64 z0) (wrap i64 z1) (aD (iu c0 c1 c2 c3 c4 c5 c6 c7 c8 c9 c10 c11 c12 c13 c14 c15 c16 c17 c18 (TV.val (Value.int u8 z0)::TV.val (Value.int u8 z1)::w)) (21:Nat) m))
abbrev Ip (z0:Int)(z1:Int)(c0:TV)(c1:TV)(c2:TV)(c3:TV)(c4:TV)(c5:TV)(c6:TV)(c7:TV)(c8:TV)(c9:TV)(c10:TV)(c11:TV)(c12:TV)(c13:TV)(c14:TV)(c15:TV)(c16:TV)(c17:TV)(c18:TV)(w:List TV)(m:Nat):VO:=(dX (wrap i64 z0) (wrap i64 z1) (aD (iu c0 c1 c2 c3 c4 c5 c6 c7 c8 c9 c10 c11 c12 c13 c14 c15 c16 c17 c18 (TV.val (Value.int u8 z0)::TV.val (Value.int u8 z1)::w)) (21:Nat) m))
theorem Ux (c0 c1 c2 c3 c4 c5 c6 c7 c8 c9 c10 c11 c12 c13 c14 c15 c16 c17 c18:TV)(z0 z1:Int)(w:List TV)(m:Nat)(Q:TV→VT→Prop):au prog ah (aI [(lQ,OU)]) (bc [(999998,.dead,none),(10,.ptr 0 19,none),(14,.ptr 0 20,none),(18,.row 1 0 21 m,none)]) 300 aG 0 Do [.row 1 0 19 (m+2)] (bC (.row (iu c0 c1 c2 c3 c4 c5 c6 c7 c8 c9 c10 c11 c12 c13 c14 c15 c16 c17 c18 (.val (.int .u8 z0):: .val (.int .u8 z1)::w)))) Q=
 (ba prog (λ_=>.none) (.indexAddr 22 (.tmp 9) (.const (.int .i64 0))) [(9,(.row 1 0 19 (m+(2:Nat))))] (.ptr 0 19)∧
 (ba prog (λ_=>.none) (.indexAddr 22 (.tmp 13) (.const (.int .i64 1))) [(13,(.row 1 0 19 (m+(2:Nat))))] (.ptr 0 20)∧
 (ba prog (λ_=>.none) (.slice 22 (.tmp 17) (.some (.const (.int .i64 2))) .none .none) [(17,(.row 1 0 19 (m+(2:Nat))))] (.row 1 0 21 m)∧
 (((@Eq (Bool) true true)∧
 RwOk ([(c0),(c1),(c2),(c3),(c4),(c5),(c6),(c7),(c8),(c9),(c10),(c11),(c12),(c13),(c14),(c15),(c16),(c17),(c18),(bG z0),(bG z1)]++w) 21 (m))∧
 (((@Eq (Option TV) (.some (bG z1)) (.some (bG z1)))∧
 ((@Eq (Option TV) (.some (bG z0)) (.some (bG z0)))∧
 True))∧
 (bif decide (wrap i64 z0≥(1:Int))
 then (bif decide (wrap i64 z0≤(255:Int))
 then (bif decide (wrap i64 z1≥(0:Int))
 then (bif decide (wrap i64 z1≤(255:Int))
 then (bif !decide ((↑(length (aD (iu c0 c1 c2 c3 c4 c5 c6 c7 c8 c9 c10 c11 c12 c13 c14 c15 c16 c17 c18 (TV.val (Value.int u8 z0)::TV.val (Value.int u8 z1)::w)) (21:Nat) m)):Int)≤(4075:Int))
 then Q kK (yr c0 c1 c2 c3 c4 c5 c6 c7 c8 c9 c10 c11 c12 c13 c14 c15 c16 c17 c18 z0 z1 w m)
 else Q (.tup [(wt (wrap i64 z0) (wrap i64 z1) (aD (iu c0 c1 c2 c3 c4 c5 c6 c7 c8 c9 c10 c11 c12 c13 c14 c15 c16 c17 c18 (TV.val (Value.int u8 z0)::TV.val (Value.int u8 z1)::w)) (21:Nat) m)),aF]) ⟨[(bI ([(c0),(c1),(c2),(c3),(c4),(c5),(c6),(c7),(c8),(c9),(c10),(c11),(c12),(c13),(c14),(c15),(c16),(c17),(c18),(.val (.int .u8 (z0))),(.val (.int .u8 (z1)))]++w)),(Ip z0 z1 c0 c1 c2 c3 c4 c5 c6 c7 c8 c9 c10 c11 c12 c13 c14 c15 c16 c17 c18 w m),(Ip z0 z1 c0 c1 c2 c3 c4 c5 c6 c7 c8 c9 c10 c11 c12 c13 c14 c15 c16 c17 c18 w m),(Ip z0 z1 c0 c1 c2 c3 c4 c5 c6 c7 c8 c9 c10 c11 c12 c13 c14 c15 c16 c17 c18 w m)],[]⟩)
 else Q kK (yr c0 c1 c2 c3 c4 c5 c6 c7 c8 c9 c10 c11 c12 c13 c14 c15 c16 c17 c18 z0 z1 w m))
 else Q kK (yr c0 c1 c2 c3 c4 c5 c6 c7 c8 c9 c10 c11 c12 c13 c14 c15 c16 c17 c18 z0 z1 w m))
 else Q kK (yr c0 c1 c2 c3 c4 c5 c6 c7 c8 c9 c10 c11 c12 c13 c14 c15 c16 c17 c18 z0 z1 w m))
 else Q kK (yr c0 c1 c2 c3 c4 c5 c6 c7 c8 c9 c10 c11 c12 c13 c14 c15 c16 c17 c18 z0 z1 w m))))))):=by kernel_rfl
abbrev OV (z0:Int)(z1:Int)(z2:Int)(z3:Int)(z4:Int)(z5:Int)(z6:Int)(z7:Int)(z8:Int)(z9:Int)(z10:Int)(z11:Int)(z12:Int)(z13:Int)(z14:Int)(z15:Int)(z16:Int)(z17:Int)(z18:Int)(w:List TV):VT:=(oX ([(.val (.int .u8 (z0))),(.val (.int .u8 (z1))),(.val (.int .u8 (z2))),(.val (.int .u8 (z3))),(.val (.int .u8 (z4))),(.val (.int .u8 (z5))),(.val (.int .u8 (z6))),(.val (.int .u8 (z7))),(.val (.int .u8 (z8))),(.val (.int .u8 (z9))),(.val (.int .u8 (z10))),(.val (.int .u8 (z11))),(.val (.int .u8 (z12))),(.val (.int .u8 (z13))),(.val (.int .u8 (z14))),(.val (.int .u8 (z15))),(.val (.int .u8 (z16))),(.val (.int .u8 (z17))),(.val (.int .u8 (z18)))]++w))
theorem Uy (z0 z1 z2 z3 z4 z5 z6 z7 z8 z9 z10 z11 z12 z13 z14 z15 z16 z17 z18:Int)(w:List TV)(m:Nat)(Q:TV→VT→Prop):au prog ah aZ (bc [(12,.row 1 0 16 (m+3),none)]) 300 aG 0 Io [.row 1 0 0 (m+19),.val (.int .i64 16)] (bC (.row (yq z0 z1 z2 z3 z4 z5 z6 z7 z8 z9 z10 z11 z12 z13 z14 z15 z16 z17 z18 w))) Q=
 (bif !decide ((16:Int)≤wrap i64 ((↑(m+(19:Nat)):Int)-(2:Int)))
 then Q (.tup [aE,av]) (OV z0 z1 z2 z3 z4 z5 z6 z7 z8 z9 z10 z11 z12 z13 z14 z15 z16 z17 z18 w)
 else (ba prog (λ_=>.none) (.slice 22 (.tmp 10) (.some (.tmp 11)) .none .none) [(10,(.row 1 0 0 (m+(19:Nat)))),(11,(.val (.int .i64 16)))] (.row 1 0 16 (m+(3:Nat)))∧
 Q (.tup [(ae (wrap i64
  (wrap u64
   (↑(toNat
     (ofInt (IntKind.bits u64)
       (wrap u64 (wrap u64 (↑(toNat (ofInt (IntKind.bits u64) (wrap u64 ((0:Int)*(2:Int)^min (Int.toNat (8:Int)) (IntKind.bits u64))) ||| ofInt (IntKind.bits u64) (wrap u64 z16))):Int)*(2:Int)^min (Int.toNat (8:Int)) (IntKind.bits u64))) |||
      ofInt (IntKind.bits u64) (wrap u64 z17))):
    Int)))),aF]) (OV z0 z1 z2 z3 z4 z5 z6 z7 z8 z9 z10 z11 z12 z13 z14 z15 z16 z17 z18 w))):=by kernel_rfl
abbrev B6 (z0:Int)(z1:Int)(z2:Int)(z3:Int)(z4:Int)(z5:Int)(z6:Int)(z7:Int)(z8:Int)(z9:Int)(z10:Int)(z11:Int)(z12:Int)(z13:Int)(z14:Int)(z15:Int)(z16:Int)(z17:Int)(z18:Int)(w:List TV):VT:=(Xv ([(.val (.int .u8 (z0))),(.val (.int .u8 (z1))),(.val (.int .u8 (z2))),(.val (.int .u8 (z3))),(.val (.int .u8 (z4))),(.val (.int .u8 (z5))),(.val (.int .u8 (z6))),(.val (.int .u8 (z7))),(.val (.int .u8 (z8))),(.val (.int .u8 (z9))),(.val (.int .u8 (z10))),(.val (.int .u8 (z11))),(.val (.int .u8 (z12))),(.val (.int .u8 (z13))),(.val (.int .u8 (z14))),(.val (.int .u8 (z15))),(.val (.int .u8 (z16))),(.val (.int .u8 (z17))),(.val (.int .u8 (z18)))]++w) z16 z17)
abbrev OW (z0:Int)(z1:Int)(z2:Int)(z3:Int)(z4:Int)(z5:Int)(z6:Int)(z7:Int)(z8:Int)(z9:Int)(z10:Int)(z11:Int)(z12:Int)(z13:Int)(z14:Int)(z15:Int)(z16:Int)(z17:Int)(z18:Int)(w:List TV):VT:=(Xu ([(.val (.int .u8 (z0))),(.val (.int .u8 (z1))),(.val (.int .u8 (z2))),(.val (.int .u8 (z3))),(.val (.int .u8 (z4))),(.val (.int .u8 (z5))),(.val (.int .u8 (z6))),(.val (.int .u8 (z7))),(.val (.int .u8 (z8))),(.val (.int .u8 (z9))),(.val (.int .u8 (z10))),(.val (.int .u8 (z11))),(.val (.int .u8 (z12))),(.val (.int .u8 (z13))),(.val (.int .u8 (z14))),(.val (.int .u8 (z15))),(.val (.int .u8 (z16))),(.val (.int .u8 (z17))),(.val (.int .u8 (z18)))]++w) [[(.val (.int .u8 (z18)))]] z16 z17 [[(.val (.int .u8 (z18)))]])
abbrev OX (z0:Int)(z1:Int)(z2:Int)(z3:Int)(z4:Int)(z5:Int)(z6:Int)(z7:Int)(z8:Int)(z9:Int)(z10:Int)(z11:Int)(z12:Int)(z13:Int)(z14:Int)(z15:Int)(z16:Int)(z17:Int)(z18:Int)(w:List TV):VT:=(Xt ([(.val (.int .u8 (z0))),(.val (.int .u8 (z1))),(.val (.int .u8 (z2))),(.val (.int .u8 (z3))),(.val (.int .u8 (z4))),(.val (.int .u8 (z5))),(.val (.int .u8 (z6))),(.val (.int .u8 (z7))),(.val (.int .u8 (z8))),(.val (.int .u8 (z9))),(.val (.int .u8 (z10))),(.val (.int .u8 (z11))),(.val (.int .u8 (z12))),(.val (.int .u8 (z13))),(.val (.int .u8 (z14))),(.val (.int .u8 (z15))),(.val (.int .u8 (z16))),(.val (.int .u8 (z17))),(.val (.int .u8 (z18)))]++w) z16 z17)
theorem Uz (z0 z1 z2 z3 z4 z5 z6 z7 z8 z9 z10 z11 z12 z13 z14 z15 z16 z17 z18 x:Int)(r w:List TV)(m:Nat)(Q:TV→VT→Prop):au prog aS (aI [(Io,Ny)]) (bc [(999998,.dead,none),(24,.ptr 0 18,none),(61,.ptr 0 18,none),(71,.elt (.val (.int .i64 x)::r),none)]) 300 aG 0 sZ [.row 1 0 0 (m+19)] (bC (.row (yq z0 z1 z2 z3 z4 z5 z6 z7 z8 z9 z10 z11 z12 z13 z14 z15 z16 z17 z18 w))) Q=
 (((@Eq (Bool) true true)∧
 (RwOk ([(bG z0),(bG z1),(bG z2),(bG z3),(bG z4),(bG z5),(bG z6),(bG z7),(bG z8),(bG z9),(bG z10),(bG z11),(bG z12),(bG z13),(bG z14),(bG z15),(bG z16),(bG z17),(bG z18)]++w) 0 (m+(19:Nat))∧
 ((@Eq (Bool) true true)∧
 (@Eq (Nat) 0 0))))∧
 (ba prog (λkk=>(bif beq kk (0:Nat) then (.some iC) else .none)) (.indexAddr 22 (.tmp 23) (.const (.int .i64 18))) [(23,(.row 1 0 0 (m+(19:Nat))))] (.ptr 0 18)∧
 (((@Eq (Option TV) (.some (uZ z0 z1 z2 z3 z4 z5 z6 z7 z8 z9 z10 z11 z12 z13 z14 z15)) (.some (uZ z0 z1 z2 z3 z4 z5 z6 z7 z8 z9 z10 z11 z12 z13 z14 z15)))∧
 True)∧
 (bif aq neq
  (aT
    ((λvs=>Value.agg (toArray vs))
      ((λx=>Value.int u8 z0::x)
        ((λx=>Value.int u8 z1::x)
          ((λx=>Value.int u8 z2::x)
            ((λx=>Value.int u8 z3::x)
              ((λx=>Value.int u8 z4::x)
                ((λx=>Value.int u8 z5::x)
                  ((λx=>Value.int u8 z6::x)
                    ((λx=>Value.int u8 z7::x)
                      ((λx=>Value.int u8 z8::x) ((λx=>Value.int u8 z9::x) ((λx=>Value.int u8 z10::x) ((λx=>Value.int u8 z11::x) ((λx=>Value.int u8 z12::x) ((λx=>Value.int u8 z13::x) ((λx=>Value.int u8 z14::x) ((λx=>Value.int u8 z15::x) [])))))))))))))))))
    ((λvs=>Value.agg (toArray vs))
      ((λx=>Value.int u8 (255:Int)::x)
        ((λx=>Value.int u8 (255:Int)::x)
          ((λx=>Value.int u8 (255:Int)::x)
            ((λx=>Value.int u8 (255:Int)::x)
              ((λx=>Value.int u8 (255:Int)::x)
                ((λx=>Value.int u8 (255:Int)::x)
                  ((λx=>Value.int u8 (255:Int)::x)
                    ((λx=>Value.int u8 (255:Int)::x)
                      ((λx=>Value.int u8 (255:Int)::x)
                        ((λx=>Value.int u8 (255:Int)::x) ((λx=>Value.int u8 (255:Int)::x) ((λx=>Value.int u8 (255:Int)::x) ((λx=>Value.int u8 (255:Int)::x) ((λx=>Value.int u8 (255:Int)::x) ((λx=>Value.int u8 (255:Int)::x) ((λx=>Value.int u8 (255:Int)::x) []))))))))))))))))))
 then Q fI ⟨[(bI ([(.val (.int .u8 (z0))),(.val (.int .u8 (z1))),(.val (.int .u8 (z2))),(.val (.int .u8 (z3))),(.val (.int .u8 (z4))),(.val (.int .u8 (z5))),(.val (.int .u8 (z6))),(.val (.int .u8 (z7))),(.val (.int .u8 (z8))),(.val (.int .u8 (z9))),(.val (.int .u8 (z10))),(.val (.int .u8 (z11))),(.val (.int .u8 (z12))),(.val (.int .u8 (z13))),(.val (.int .u8 (z14))),(.val (.int .u8 (z15))),(.val (.int .u8 (z16))),(.val (.int .u8 (z17))),(.val (.int .u8 (z18)))]++w)),C4,(nB z16 z17),j4,j4,C4],[]⟩
 else (bif decide (fG (aD (yq z0 z1 z2 z3 z4 z5 z6 z7 z8 z9 z10 z11 z12 z13 z14 z15 z16 z17 z18 w) (0:Nat) (m+(19:Nat)))<(19:Int))
 then Q Hw (B6 z0 z1 z2 z3 z4 z5 z6 z7 z8 z9 z10 z11 z12 z13 z14 z15 z16 z17 z18 w)
 else (bif decide (fG (aD (yq z0 z1 z2 z3 z4 z5 z6 z7 z8 z9 z10 z11 z12 z13 z14 z15 z16 z17 z18 w) (0:Nat) (m+(19:Nat)))>(4096:Int))
 then Q Hw (B6 z0 z1 z2 z3 z4 z5 z6 z7 z8 z9 z10 z11 z12 z13 z14 z15 z16 z17 z18 w)
 else (bif decide (wrap i64 z18<(1:Int))
 then (ba prog (λkk=>(bif beq kk (0:Nat) then (.some iC) else .none)) (.indexAddr 22 (.tmp 60) (.const (.int .i64 18))) [(60,(.row 1 0 0 (m+(19:Nat))))] (.ptr 0 18)∧
 Q (uY [[(.val (.int .u8 (z18)))]]) (OW z0 z1 z2 z3 z4 z5 z6 z7 z8 z9 z10 z11 z12 z13 z14 z15 z16 z17 z18 w))
 else (bif decide (wrap i64 z18>(4:Int))
 then (ba prog (λkk=>(bif beq kk (0:Nat) then (.some iC) else .none)) (.indexAddr 22 (.tmp 60) (.const (.int .i64 18))) [(60,(.row 1 0 0 (m+(19:Nat))))] (.ptr 0 18)∧
 Q (uY [[(.val (.int .u8 (z18)))]]) (OW z0 z1 z2 z3 z4 z5 z6 z7 z8 z9 z10 z11 z12 z13 z14 z15 z16 z17 z18 w))
 else (ba prog (λkk=>(bif beq kk (0:Nat) then (.some iC) else .none)) (.indexAddr 112 (.global 0) (.tmp 70)) [(70,(ae (wrap i64 z18)))] (.elt ([(.val (.int .i64 (x)))]++r))∧
 (bif decide (fG (aD (yq z0 z1 z2 z3 z4 z5 z6 z7 z8 z9 z10 z11 z12 z13 z14 z15 z16 z17 z18 w) (0:Nat) (m+(19:Nat)))<x)
 then Q Hw (B6 z0 z1 z2 z3 z4 z5 z6 z7 z8 z9 z10 z11 z12 z13 z14 z15 z16 z17 z18 w)
 else (bif aq eql (k6 (wrap i64 z18) (4:Int))
 then (bif decide (fG (aD (yq z0 z1 z2 z3 z4 z5 z6 z7 z8 z9 z10 z11 z12 z13 z14 z15 z16 z17 z18 w) (0:Nat) (m+(19:Nat)))>(19:Int))
 then Q Hw (B6 z0 z1 z2 z3 z4 z5 z6 z7 z8 z9 z10 z11 z12 z13 z14 z15 z16 z17 z18 w)
 else Q (xK (fG (aD (yq z0 z1 z2 z3 z4 z5 z6 z7 z8 z9 z10 z11 z12 z13 z14 z15 z16 z17 z18 w) (0:Nat) (m+(19:Nat)))) (wrap i64 z18)) (OX z0 z1 z2 z3 z4 z5 z6 z7 z8 z9 z10 z11 z12 z13 z14 z15 z16 z17 z18 w))
 else Q (xK (fG (aD (yq z0 z1 z2 z3 z4 z5 z6 z7 z8 z9 z10 z11 z12 z13 z14 z15 z16 z17 z18 w) (0:Nat) (m+(19:Nat)))) (wrap i64 z18)) (OX z0 z1 z2 z3 z4 z5 z6 z7 z8 z9 z10 z11 z12 z13 z14 z15 z16 z17 z18 w)))))))))))):=by kernel_rfl
abbrev OY (BB:List TV)(m:Nat):VO:=(SB (cU (aD BB (0:Nat) (m+(19:Nat)))) (zN (aD BB (19:Nat) m)) (zP (aD BB (19:Nat) m)) (zQ (aD BB (19:Nat) m)) (zS (aD BB (19:Nat) m)) (zT (aD BB (19:Nat) m)) (zU (aD BB (19:Nat) m)) (zV (aD BB (19:Nat) m)))
abbrev vt (c0:TV)(c1:TV)(c2:TV)(c3:TV)(c4:TV)(c5:TV)(c6:TV)(c7:TV)(c8:TV)(c9:TV)(c10:TV)(c11:TV)(c12:TV)(c13:TV)(c14:TV)(c15:TV)(c16:TV)(c17:TV)(c18:TV)(w:List TV):VO:=(bI ([(c0),(c1),(c2),(c3),(c4),(c5),(c6),(c7),(c8),(c9),(c10),(c11),(c12),(c13),(c14),(c15),(c16),(c17),(c18)]++w))
abbrev OZ (BB:List TV)(m:Nat)(pas:Int):VO:=(SF (cU (aD BB (0:Nat) (m+(19:Nat)))) (zJ (aD BB (19:Nat) m) pas) (zK (aD BB (19:Nat) m) pas) (zL (aD BB (19:Nat) m) pas) (pp (aD BB (19:Nat) m) pas))
abbrev O0 (BB:List TV)(m:Nat):VO:=(Sx (cU (aD BB (0:Nat) (m+(19:Nat)))) (uj (aD BB (19:Nat) m)) (un (aD BB (19:Nat) m)) (uo (aD BB (19:Nat) m)))
theorem UA (c0 c1 c2 c3 c4 c5 c6 c7 c8 c9 c10 c11 c12 c13 c14 c15 c16 c17 c18:TV)(w:List TV)(m:Nat)(pas:Int)(Q:TV→VT→Prop):au prog aS (aI [(sZ,Eh),(FI,Kx),(Ge,Ky),(Do,Kz)]) (bc [(999999,.dead,none),(48,.row 1 0 19 m,none)]) 300 aG 0 Gl [.row 1 0 0 (m+19),.val (.int .i64 pas)] (bC (.row (iu c0 c1 c2 c3 c4 c5 c6 c7 c8 c9 c10 c11 c12 c13 c14 c15 c16 c17 c18 w))) Q=
 (λBB:List TV=>(((@Eq (Bool) true true)∧
 (RwOk ([(c0),(c1),(c2),(c3),(c4),(c5),(c6),(c7),(c8),(c9),(c10),(c11),(c12),(c13),(c14),(c15),(c16),(c17),(c18)]++w) 0 (m+(19:Nat))∧
 ((@Eq (Bool) true true)∧
 (@Eq (Nat) 0 0))))∧
 (bif cK (aD BB (0:Nat) (m+(19:Nat)))
 then (bif aq neq (k6 (bA (aD BB (0:Nat) (m+(19:Nat)))) (↑(m+(19:Nat)):Int))
 then Q Hz (Su ([(c0),(c1),(c2),(c3),(c4),(c5),(c6),(c7),(c8),(c9),(c10),(c11),(c12),(c13),(c14),(c15),(c16),(c17),(c18)]++w) c16 c17)
 else (ba prog (λkk=>(bif beq kk (0:Nat) then (.some iC) else .none)) (.slice 22 (.tmp 47) (.some (.const (.int .i64 19))) .none .none) [(47,(.row 1 0 0 (m+(19:Nat))))] (.row 1 0 19 m)∧
 (bif aq eql (k6 (cU (aD BB (0:Nat) (m+(19:Nat)))) (1:Int))
 then (((@Eq (Bool) true true)∧
 RwOk ([(c0),(c1),(c2),(c3),(c4),(c5),(c6),(c7),(c8),(c9),(c10),(c11),(c12),(c13),(c14),(c15),(c16),(c17),(c18)]++w) 19 (m))∧
 (bif gl (aD BB (19:Nat) m) pas
 then Q (SG (cU (aD BB (0:Nat) (m+(19:Nat)))) (zJ (aD BB (19:Nat) m) pas) (zK (aD BB (19:Nat) m) pas) (zL (aD BB (19:Nat) m) pas) (pp (aD BB (19:Nat) m) pas)) ⟨[(vt c0 c1 c2 c3 c4 c5 c6 c7 c8 c9 c10 c11 c12 c13 c14 c15 c16 c17 c18 w),(OZ BB m pas),bh,b8,mH,(.row [c16,c17]),(OZ BB m pas)],[]⟩
 else Q (SE (pq (aD BB (19:Nat) m) pas) (j9 (aD BB (19:Nat) m) pas)) ⟨[(vt c0 c1 c2 c3 c4 c5 c6 c7 c8 c9 c10 c11 c12 c13 c14 c15 c16 c17 c18 w),oV,(L7 (pq (aD BB (19:Nat) m) pas) (j9 (aD BB (19:Nat) m) pas)),(L7 (pq (aD BB (19:Nat) m) pas) (j9 (aD BB (19:Nat) m) pas)),mH,(.row [c16,c17]),(SD (cU (aD BB (0:Nat) (m+(19:Nat)))))],[]⟩))
 else (bif aq eql (k6 (cU (aD BB (0:Nat) (m+(19:Nat)))) (2:Int))
 then (((@Eq (Bool) true true)∧
 RwOk ([(c0),(c1),(c2),(c3),(c4),(c5),(c6),(c7),(c8),(c9),(c10),(c11),(c12),(c13),(c14),(c15),(c16),(c17),(c18)]++w) 19 (m))∧
 (bif gM (aD BB (19:Nat) m)
 then Q (SC (cU (aD BB (0:Nat) (m+(19:Nat)))) (zN (aD BB (19:Nat) m)) (zP (aD BB (19:Nat) m)) (zQ (aD BB (19:Nat) m)) (zS (aD BB (19:Nat) m)) (zT (aD BB (19:Nat) m)) (zU (aD BB (19:Nat) m)) (zV (aD BB (19:Nat) m))) ⟨[(vt c0 c1 c2 c3 c4 c5 c6 c7 c8 c9 c10 c11 c12 c13 c14 c15 c16 c17 c18 w),(OY BB m),bh,b8,mH,(.row [c16,c17]),(OY BB m)],[]⟩
 else Q (SA (pt (aD BB (19:Nat) m)) (ka (aD BB (19:Nat) m))) ⟨[(vt c0 c1 c2 c3 c4 c5 c6 c7 c8 c9 c10 c11 c12 c13 c14 c15 c16 c17 c18 w),oV,(pV (pt (aD BB (19:Nat) m)) (ka (aD BB (19:Nat) m))),(pV (pt (aD BB (19:Nat) m)) (ka (aD BB (19:Nat) m))),mH,(.row [c16,c17]),(Sz (cU (aD BB (0:Nat) (m+(19:Nat)))))],[]⟩))
 else (bif aq eql (k6 (cU (aD BB (0:Nat) (m+(19:Nat)))) (3:Int))
 then (((@Eq (Bool) true true)∧
 (RwOk ([(c0),(c1),(c2),(c3),(c4),(c5),(c6),(c7),(c8),(c9),(c10),(c11),(c12),(c13),(c14),(c15),(c16),(c17),(c18)]++w) 19 (m)∧
 ((@Eq (Nat) 19 19)∧
 (@Eq (Bool) (ble (2:Nat) m) true))))∧
 (bif fv (aD BB (19:Nat) m)
 then Q (Sy (cU (aD BB (0:Nat) (m+(19:Nat)))) (uj (aD BB (19:Nat) m)) (un (aD BB (19:Nat) m)) (uo (aD BB (19:Nat) m))) ⟨[(vt c0 c1 c2 c3 c4 c5 c6 c7 c8 c9 c10 c11 c12 c13 c14 c15 c16 c17 c18 w),(O0 BB m),bh,b8,mH,(.row [c16,c17]),(O0 BB m),(dX (uj (aD BB (19:Nat) m)) (un (aD BB (19:Nat) m)) (uo (aD BB (19:Nat) m)))],[]⟩
 else Q Hz ⟨[(vt c0 c1 c2 c3 c4 c5 c6 c7 c8 c9 c10 c11 c12 c13 c14 c15 c16 c17 c18 w),oV,mH,mH,mH,(.row [c16,c17]),(Sw (cU (aD BB (0:Nat) (m+(19:Nat))))),b8],[]⟩))
 else Q (L6 (cU (aD BB (0:Nat) (m+(19:Nat))))) (St ([(c0),(c1),(c2),(c3),(c4),(c5),(c6),(c7),(c8),(c9),(c10),(c11),(c12),(c13),(c14),(c15),(c16),(c17),(c18)]++w) (cU (aD BB (0:Nat) (m+(19:Nat)))) c16 c17 (cU (aD BB (0:Nat) (m+(19:Nat))))))))))
 else Q (Hy (ga (aD BB (0:Nat) (m+(19:Nat)))) (fH (aD BB (0:Nat) (m+(19:Nat))))) (Ss ([(c0),(c1),(c2),(c3),(c4),(c5),(c6),(c7),(c8),(c9),(c10),(c11),(c12),(c13),(c14),(c15),(c16),(c17),(c18)]++w) (ga (aD BB (0:Nat) (m+(19:Nat)))) (fH (aD BB (0:Nat) (m+(19:Nat)))) (ga (aD BB (0:Nat) (m+(19:Nat)))) (fH (aD BB (0:Nat) (m+(19:Nat)))))))) (iu c0 c1 c2 c3 c4 c5 c6 c7 c8 c9 c10 c11 c12 c13 c14 c15 c16 c17 c18 w):=by kernel_rfl
abbrev B7 (c0:TV)(c1:TV)(c2:TV)(c3:TV)(c4:TV)(c5:TV)(c6:TV)(c7:TV)(c8:TV)(c9:TV)(c10:TV)(c11:TV)(c12:TV)(c13:TV)(c14:TV)(c15:TV)(c16:TV)(c17:TV)(c18:TV)(z0:Int)(z1:Int)(w:List TV):VT:=(Xs ([(c0),(c1),(c2),(c3),(c4),(c5),(c6),(c7),(c8),(c9),(c10),(c11),(c12),(c13),(c14),(c15),(c16),(c17),(c18),(.val (.int .u8 (z0))),(.val (.int .u8 (z1)))]++w) (wrap i64 z0) (wrap i64 z1) (wrap i64 z0) (wrap i64 z1))
abbrev Iq (z0:Int)(z1:Int):VO:=(lM (wrap i64 z0) (wrap i64 z1))
theorem Rr (c0 c1 c2 c3 c4 c5 c6 c7 c8 c9 c10 c11 c12 c13 c14 c15 c16 c17 c18:TV)(z0 z1:Int)(w:List TV)(Q:TV→VT→Prop):au prog ah (aI [(lQ,jE)]) (bc [(999998,.dead,none)]) 300 aG 0 Do [.row 1 0 19 2] (bC (.row (iu c0 c1 c2 c3 c4 c5 c6 c7 c8 c9 c10 c11 c12 c13 c14 c15 c16 c17 c18 (.val (.int .u8 z0):: .val (.int .u8 z1)::w)))) Q=
 (IsB []∧
 (((@Eq (Option TV) (.some (bG z1)) (.some (bG z1)))∧
 ((@Eq (Option TV) (.some (bG z0)) (.some (bG z0)))∧
 True))∧
 (bif decide (wrap i64 z0≥(1:Int))
 then (bif decide (wrap i64 z0≤(255:Int))
 then (bif decide (wrap i64 z1≥(0:Int))
 then (bif decide (wrap i64 z1≤(255:Int))
 then Q (.tup [(.agg [(ae (wrap i64 z0)),(ae (wrap i64 z1)),jZ]),aF]) ⟨[(bI ([(c0),(c1),(c2),(c3),(c4),(c5),(c6),(c7),(c8),(c9),(c10),(c11),(c12),(c13),(c14),(c15),(c16),(c17),(c18),(.val (.int .u8 (z0))),(.val (.int .u8 (z1)))]++w)),(Iq z0 z1),(Iq z0 z1),(Iq z0 z1)],[]⟩
 else Q kK (B7 c0 c1 c2 c3 c4 c5 c6 c7 c8 c9 c10 c11 c12 c13 c14 c15 c16 c17 c18 z0 z1 w))
 else Q kK (B7 c0 c1 c2 c3 c4 c5 c6 c7 c8 c9 c10 c11 c12 c13 c14 c15 c16 c17 c18 z0 z1 w))
 else Q kK (B7 c0 c1 c2 c3 c4 c5 c6 c7 c8 c9 c10 c11 c12 c13 c14 c15 c16 c17 c18 z0 z1 w))
 else Q kK (B7 c0 c1 c2 c3 c4 c5 c6 c7 c8 c9 c10 c11 c12 c13 c14 c15 c16 c17 c18 z0 z1 w)))):=by kernel_rfl
theorem Rs (c0 c1 c2 c3 c4 c5 c6 c7 c8 c9 c10 c11 c12 c13 c14 c15 c16 c17 c18:TV)(w:List TV)(pas:Int)(Q:TV→VT→Prop):au prog aS (aI [(sZ,Eh),(FI,Kx),(Ge,Ky),(Do,Kz)]) (bc [(999999,.dead,none)]) 300 aG 0 Gl [.row 1 0 0 19,.val (.int .i64 pas)] (bC (.row (iu c0 c1 c2 c3 c4 c5 c6 c7 c8 c9 c10 c11 c12 c13 c14 c15 c16 c17 c18 w))) Q=
 (((@Eq (Bool) true true)∧
 (RwOk ([(c0),(c1),(c2),(c3),(c4),(c5),(c6),(c7),(c8),(c9),(c10),(c11),(c12),(c13),(c14),(c15),(c16),(c17),(c18)]++w) 0 19∧
 ((@Eq (Bool) true true)∧
 (@Eq (Nat) 0 0))))∧
 (bif cK (aD (iu c0 c1 c2 c3 c4 c5 c6 c7 c8 c9 c10 c11 c12 c13 c14 c15 c16 c17 c18 w) (0:Nat) (19:Nat))
 then (bif aq neq (k6 (bA (aD (iu c0 c1 c2 c3 c4 c5 c6 c7 c8 c9 c10 c11 c12 c13 c14 c15 c16 c17 c18 w) (0:Nat) (19:Nat))) (↑(19:Nat):Int))
 then Q Hz (Su ([(c0),(c1),(c2),(c3),(c4),(c5),(c6),(c7),(c8),(c9),(c10),(c11),(c12),(c13),(c14),(c15),(c16),(c17),(c18)]++w) c16 c17)
 else (bif aq eql (k6 (cU (aD (iu c0 c1 c2 c3 c4 c5 c6 c7 c8 c9 c10 c11 c12 c13 c14 c15 c16 c17 c18 w) (0:Nat) (19:Nat))) (1:Int))
 then False
 else (bif aq eql (k6 (cU (aD (iu c0 c1 c2 c3 c4 c5 c6 c7 c8 c9 c10 c11 c12 c13 c14 c15 c16 c17 c18 w) (0:Nat) (19:Nat))) (2:Int))
 then False
 else (bif aq eql (k6 (cU (aD (iu c0 c1 c2 c3 c4 c5 c6 c7 c8 c9 c10 c11 c12 c13 c14 c15 c16 c17 c18 w) (0:Nat) (19:Nat))) (3:Int))
 then False
 else Q (L6 (cU (aD (iu c0 c1 c2 c3 c4 c5 c6 c7 c8 c9 c10 c11 c12 c13 c14 c15 c16 c17 c18 w) (0:Nat) (19:Nat)))) (St ([(c0),(c1),(c2),(c3),(c4),(c5),(c6),(c7),(c8),(c9),(c10),(c11),(c12),(c13),(c14),(c15),(c16),(c17),(c18)]++w) (cU (aD (iu c0 c1 c2 c3 c4 c5 c6 c7 c8 c9 c10 c11 c12 c13 c14 c15 c16 c17 c18 w) (0:Nat) (19:Nat))) c16 c17 (cU (aD (iu c0 c1 c2 c3 c4 c5 c6 c7 c8 c9 c10 c11 c12 c13 c14 c15 c16 c17 c18 w) (0:Nat) (19:Nat))))))))
 else Q (Hy (ga (aD (iu c0 c1 c2 c3 c4 c5 c6 c7 c8 c9 c10 c11 c12 c13 c14 c15 c16 c17 c18 w) (0:Nat) (19:Nat))) (fH (aD (iu c0 c1 c2 c3 c4 c5 c6 c7 c8 c9 c10 c11 c12 c13 c14 c15 c16 c17 c18 w) (0:Nat) (19:Nat)))) (Ss ([(c0),(c1),(c2),(c3),(c4),(c5),(c6),(c7),(c8),(c9),(c10),(c11),(c12),(c13),(c14),(c15),(c16),(c17),(c18)]++w) (ga (aD (iu c0 c1 c2 c3 c4 c5 c6 c7 c8 c9 c10 c11 c12 c13 c14 c15 c16 c17 c18 w) (0:Nat) (19:Nat))) (fH (aD (iu c0 c1 c2 c3 c4 c5 c6 c7 c8 c9 c10 c11 c12 c13 c14 c15 c16 c17 c18 w) (0:Nat) (19:Nat))) (ga (aD (iu c0 c1 c2 c3 c4 c5 c6 c7 c8 c9 c10 c11 c12 c13 c14 c15 c16 c17 c18 w) (0:Nat) (19:Nat))) (fH (aD (iu c0 c1 c2 c3 c4 c5 c6 c7 c8 c9 c10 c11 c12 c13 c14 c15 c16 c17 c18 w) (0:Nat) (19:Nat)))))):=by kernel_rfl
theorem VCx.leRow {P:Program}{G:aV}{f:FuncId}{xs:List TV}{cs:List TV}{y:TV}(hc:∀f g,(VO.row cs).ren f g=.row cs)(hy:∀f g,y.ren f g=y)(h:VCx P G 0 f xs ⟨[.row cs],[]⟩ λx T'=>TVle x y∧T'.objs[0]?=some (.row cs)):
 VCx P G 0 f xs ⟨[.row cs],[]⟩ λx T'=>x=y∧T'=⟨[.row cs],[]⟩:=VCx.fzRow hc hy (h.mono λ_ T' ⟨h1,h2⟩=>⟨T',.le h1,le_refl _,h2⟩)
section
variable {cs:List TV}{off n:Nat}
theorem UB (h:RwOk cs off n):VCx prog ah 0 lQ [.row 1 0 off n] ⟨[.row cs],[]⟩ λx T'=>x=.vec 1 (aD cs off n) .none∧T'=⟨[.row cs],[]⟩:=by
 have hb:=h.is
 refine VCx.fzRow h.ren (λf g=>by simp only [TV.ren,hb.ren,Tok.ren]) ?_
 cases n with
 |zero=>
  refine aj ag ac am ai (Rq cs off _) ⟨?_,⟨_,.le (.vec 1 _ _),le_refl _,rfl⟩⟩
  obtain ⟨inf,i1,i2,i3,i4⟩:=dj
  have hr:cd ⟨[.row cs],[]⟩ 1 (.row 1 0 off 0)=some []:=by
   have h1:=h.1
   simp only [cd,List.getElem?_cons_zero,beq_refl,Bool.true_and,mul_one,ble_eq_true_of_le h1,cond_true]
   rfl
  have ht:=In (P:=prog) (G:=ah) (ro:=0) (T:=⟨[.row cs],[]⟩) (t:=22) (tx:=22) (s:=.tmp 5) (x:=.tmp 6) (l:= [(5,.vec 1 [] .full),(6,.row 1 0 off 0)]) (inf:=inf) (id:=0) (off:=off) (n:=0) underlying22 i1 i4 (by rw [i2];rfl) (by rfl) (by kernel_rfl) (by rw [i2];rfl) (by rw [i2];rfl) (by rw [i2];exact hr)
  rw [i2] at ht
  exact ht
 |succ n=>
  obtain ⟨q0,qs,hq⟩:∃q0 qs,aD cs off (n+1)=q0::qs:=⟨_,_,rfl⟩
  have hl:(q0::qs).length=n+1:=by rw [←hq];exact iN _ _ _
  have hr:cd ⟨[.row cs],[]⟩ 1 (.row 1 0 off (n+1))=some (q0::qs):=by
   have h1:=h.1
   simp only [cd,List.getElem?_cons_zero,beq_refl,Bool.true_and,mul_one,ble_eq_true_of_le h1,cond_true]
   rw [←hq];rfl
  obtain ⟨inf,i1,i2,i3,i4⟩:=dj
  refine aj ag ac am ai (Uw cs (q0::qs).flatten off (n+1) _) ⟨?_,?_⟩
  ·have ht:=Im (P:=prog) (G:=ah) (ro:=0) (T:=⟨[.row cs],[]⟩) (t:=22) (tx:=22) (s:=.tmp 5) (x:=.tmp 6) (l:= [(5,.vec 1 [] .full),(6,.row 1 0 off (n+1))]) (inf:=inf) (q0:=q0) (qs:=qs) (id:=0) (off:=off) (n:=n+1) underlying22 i1 i4 (by rw [i2];rfl) (by rfl) (by kernel_rfl) (by rw [i2];rfl) (by rw [i2];rfl) (by rw [i2];exact hr) (by
     have:=h.1
     have:=h.2.1
     rw [i3,hl];omega)
   rw [i2,hl] at ht
   exact ht
  ·rw [hq]
   refine ⟨_,.row (es:=q0::qs) ?_,Gn _ 1,rfl⟩
   rw [←hl]
   exact dI rfl (by rw [←hq];exact hb.len1)
theorem KA:∀ro ys T K,OU ro ys T K→VCx prog ah ro lQ ys T K:=by
 intro ro ys T K hw
 unfold OU at hw
 split at hw
 ·split at hw
  ·rename_i k off n cs ho
   obtain ⟨⟨hro,h⟩,hk⟩:=hw
   exact VCx.atRow aP (le_of_ble_eq_true hro) ho h.ren (λf g=>by simp only [TV.ren,h.is.ren,Tok.ren]) (by simp [aB,TV.ren,bb]) (UB h) hk
  ·exact hw.elim
 ·exact hw.elim
theorem Rt (h:RwOk cs off n):VCx prog ah 0 kS [.row 1 0 off n] ⟨[.row cs],[]⟩ λx T'=>x=.ptr 1 0∧T'=⟨[.row cs,aN (aD cs off n) 0 0],[]⟩:=
 aj ag ac (aQ λp hp=>by obtain rfl:=mem_singleton.1 hp;exact KA) ai (Rp cs off n _) ⟨⟨rfl,h⟩,rfl,rfl⟩
theorem KB:∀ro ys T K,Gp ro ys T K→VCx prog ah ro kS ys T K:=by
 intro ro ys T K hw
 unfold Gp at hw
 split at hw
 ·split at hw
  ·rename_i k off n _ cs ho
   obtain ⟨⟨hro,h⟩,hk⟩:=hw
   refine VCx.at1 (Q:=λx o' l'=>x=.ptr 1 0∧o'=.row cs∧l'= [aN (aD cs off n) 0 0]) aP (le_of_ble_eq_true hro) ho rfl (h.ren _ _) (ys1:= [.row 1 0 off n]) (by simp [aB,TV.ren,bb]) ((Rt h).mono λx T' ⟨h1,h2⟩=>⟨_,_,h2,h1,rfl,rfl⟩) ?_
   rintro x o' l' ⟨rfl,rfl,rfl⟩
   rw [h.ren,jC ho]
   simpa [TV.ren,bd,bW h.is] using hk
  ·exact hw.elim
 ·exact hw.elim
end
section
variable {b:Bs}{cs:List TV}
theorem mS {s:Int}{d:Bs}{dz:TV}{T':VT}(h0:T'.objs[0]?=some (.row cs))(h:f9 b=.inl (s,d))(hd:TVle dz (.vec 1 d .none)):TVle (TV.tup [.agg [.val (.slice none 0 0),.val (.int .i64 0),.val (.slice none 0 0),.val (.int .u32 0),.val (.int .i64 0),.val (.bool false),.val (.slice none 0 0)],.agg [.val (.int .i64 3),.val (.int .i64 s),dz]]) (jY b)∧T'.objs[0]?=some (.row cs):=by
 unfold jY vS
 rw [h]
 exact ⟨.tup ⟨.agg ⟨.nil 2,.refl _,.nil 1,.refl _,.refl _,.refl _,.nil 2,trivial⟩,.agg ⟨.refl _,.refl _,hd,trivial⟩,trivial⟩,h0⟩
theorem pw {T':VT}{pz:TV}(h0:T'.objs[0]?=some (.row cs))(h:f9 b=.inr {lu with w:=aK (fw b),n:=aK (dE b)})(hp:TVle pz (.vec 1 [] .none)):TVle (TV.tup [.agg [.vec 2 (aK (fw b)) .none,.val (.int .i64 0),pz,.val (.int .u32 0),.val (.int .i64 0),.val (.bool false),.vec 2 (aK (dE b)) .none],.agg [.val (.int .i64 0),.val (.int .i64 0),.val (.slice none 0 0)]]) (jY b)∧T'.objs[0]?=some (.row cs):=by
 unfold jY vS
 rw [h]
 exact ⟨.tup ⟨.agg ⟨.refl _,.refl _,hp,.refl _,.refl _,.refl _,.refl _,trivial⟩,.agg ⟨.refl _,.refl _,.nil 1,trivial⟩,trivial⟩,h0⟩
theorem Ei {T':VT}(h0:T'.objs[0]?=some (.row cs))(h:f9 b=.inr ⟨aK (fw b),jd (b7 b),fL (b7 b),je (b7 b),jf (b7 b),jg (b7 b),aK (dE b)⟩):TVle (TV.tup [.agg [.vec 2 (aK (fw b)) .none,.val (.int .i64 (jd (b7 b))),.vec 1 (fL (b7 b)) .none,.val (.int .u32 (je (b7 b))),.val (.int .i64 (jf (b7 b))),.val (.bool (jg (b7 b))),.vec 2 (aK (dE b)) .none],.agg [.val (.int .i64 0),.val (.int .i64 0),.val (.slice none 0 0)]]) (jY b)∧T'.objs[0]?=some (.row cs):=by
 unfold jY vS
 rw [h]
 exact ⟨.tup ⟨.refl _,.agg ⟨.refl _,.refl _,.nil 1,trivial⟩,trivial⟩,h0⟩
end
theorem UC {cs:List TV}{off n:Nat}(hr:RwOk cs off n):VCx prog ah 0 Ge [.row 1 0 off n] ⟨[.row cs],[]⟩ λx T'=>x=jY (aD cs off n)∧T'=⟨[.row cs],[]⟩:=by
 have hb:=hr.is
 have hS:bk prog ah (aI [(kS,Gp),(ne,mm .i64 2),(j5,AS),(HU,x4),(jD,mj),(o8,zI),(ub,Gf)]):=aQ λp hp=>by
  rcases mem_cons.1 hp with rfl | hp;exact KB
  rcases mem_cons.1 hp with rfl | hp;exact λro ys T K h=>va _ _ _ _ (nv h)
  rcases mem_cons.1 hp with rfl | hp;exact λro ys T K h=>tV _ _ _ _ (Dm h)
  rcases mem_cons.1 hp with rfl | hp;exact λro ys T K h=>S7 _ _ _ _ (JF h)
  rcases mem_cons.1 hp with rfl | hp;exact rc
  rcases mem_cons.1 hp with rfl | hp;exact Gg λ_ h=>Tr h
  obtain rfl:=mem_singleton.1 hp;exact Kn Uk
 refine VCx.leRow hr.ren (zH hb) (aj ag ac hS ai (Uu cs off n _) ?_)
 refine ⟨⟨rfl,hr⟩,⟨rfl,hb⟩,?_⟩
 generalize aD cs off n=b at hb
 intro z bz az ez hq1
 have hbz:IsB bz:=by rw [hq1.2.1];exact aH hb
 refine ⟨⟨rfl,hbz⟩,?_⟩
 intro v b2 a2 e2 hq2
 have hb2:IsB b2:=by rw [hq2.2.1];exact aH hbz
 refine ⟨⟨rfl,hb2⟩,?_⟩
 intro z3 b3 a3 e3 hq3
 have hb3:IsB b3:=by rw [hq3.2.1];exact aH hb2
 refine ⟨⟨rfl,hb3⟩,?_⟩
 intro v4 b4 a4 e4 hq4
 have hb4:IsB b4:=by rw [hq4.2.1];exact aH hb3
 refine ⟨⟨rfl,hb4⟩,?_⟩
 intro v5 b5 a5 e5 hq5
 have hb5:IsB b5:=by rw [hq5.2.1];exact aH hb4
 refine ⟨⟨rfl,hb5⟩,?_⟩
 obtain ⟨rfl,rfl,rfl,rfl⟩:=Ko (z2:=0) (e6:=0) hq1 hq2 hq3 hq4 ⟨hq5.1,hq5.2.2⟩
 have hG:=D6 hb
 have hA:=uf hb
 have hN:=D7 hb
 refine ak (λc1=> ?_) (λc1=> ?_)
 ·exact mS rfl (by unfold f9;rw [if_pos (bX c1)]) (.nil 1)
 replace c1:OJ b=0:=bZ c1
 refine ⟨hG,ak (λc2=> ?_) (λc2=> ?_)⟩
 rotate_left
 ·exact mS rfl (by unfold f9;rw [if_neg (λc=>c c1),c2];rfl) (.nil 1)
 refine ⟨hN,ak (λc3=> ?_) (λc3=> ?_)⟩
 rotate_left
 ·exact mS rfl (by unfold f9;rw [if_neg (λc=>c c1),c2,c3];rfl) (.nil 1)
 have hu:f9 b=(if (b7 b).length=0∧(aK (dE b)).length=0 then .inr {lu with w:=aK (fw b),n:=aK (dE b)}
  else bif gL (b7 b) then (if 0<(aK (dE b)).length then .inr ⟨aK (fw b),jd (b7 b),fL (b7 b),je (b7 b),jf (b7 b),jg (b7 b),aK (dE b)⟩ else .inr {lu with w:=aK (fw b),n:=aK (dE b)})
  else if 0<(aK (dE b)).length then .inl (fg (b7 b),fK (b7 b)) else if fg (b7 b)=3 then .inr {lu with w:=aK (fw b),n:=aK (dE b)} else .inl (fg (b7 b),fK (b7 b))):=by
  unfold f9;rw [if_neg (λc=>c c1),c2,c3];rfl
 refine ak (λc4=> ?_) (λc4=> ?_)
 ·replace c4:=bM c4
  refine ak (λc5=> ?_) (λc5=> ?_)
  ·exact pw rfl (by rw [hu,if_pos ⟨ofNat_inj.1 c4,ofNat_inj.1 (bM c5)⟩]) (.nil 1)
  have hne:¬((b7 b).length=0∧(aK (dE b)).length=0):=λh=>bB c5 (ofNat_inj.2 h.2)
  refine ⟨hA,ak (λc6=> ?_) (λc6=> ?_)⟩
  ·refine ak (λc7=> ?_) (λc7=> ?_)
   ·exact aU c7 (Ei rfl (by rw [hu,if_neg hne,c6];simp only [cond_true];rw [if_pos (Bd c7)]))
   ·exact aO c7 (pw rfl (by rw [hu,if_neg hne,c6];simp only [cond_true];rw [if_neg (qG c7)]) (.nil 1))
  ·refine ak (λc7=> ?_) (λc7=> ?_)
   ·exact mS rfl (by rw [hu,if_neg hne,c6];simp only [cond_false];rw [if_pos (Bd c7)]) (.refl _)
   refine ak (λc8=> ?_) (λc8=> ?_)
   ·exact mS rfl (by rw [hu,if_neg hne,c6];simp only [cond_false];rw [if_neg (qG c7),if_neg (bX c8)]) (.refl _)
   ·exact aO c7 (pw rfl (by rw [hu,if_neg hne,c6];simp only [cond_false];rw [if_neg (qG c7),if_pos (bZ c8)]) (.nil 1))
 ·have hne:¬((b7 b).length=0∧(aK (dE b)).length=0):=λh=>bB c4 (ofNat_inj.2 h.1)
  refine ⟨hA,ak (λc6=> ?_) (λc6=> ?_)⟩
  ·refine ak (λc7=> ?_) (λc7=> ?_)
   ·exact aU c7 (Ei rfl (by rw [hu,if_neg hne,c6];simp only [cond_true];rw [if_pos (Bd c7)]))
   ·exact aO c7 (pw rfl (by rw [hu,if_neg hne,c6];simp only [cond_true];rw [if_neg (qG c7)]) (.nil 1))
  ·refine ak (λc7=> ?_) (λc7=> ?_)
   ·exact mS rfl (by rw [hu,if_neg hne,c6];simp only [cond_false];rw [if_pos (Bd c7)]) (.refl _)
   refine ak (λc8=> ?_) (λc8=> ?_)
   ·exact mS rfl (by rw [hu,if_neg hne,c6];simp only [cond_false];rw [if_neg (qG c7),if_neg (bX c8)]) (.refl _)
   ·exact aO c7 (pw rfl (by rw [hu,if_neg hne,c6];simp only [cond_false];rw [if_neg (qG c7),if_pos (bZ c8)]) (.nil 1))
set_option maxHeartbeats 1000000 in
theorem UD {cs:List TV}{off n:Nat}(hr:RwOk cs off n)(pas:Int):VCx prog ah 0 FI [.row 1 0 off n,.val (.int .i64 pas)] ⟨[.row cs],[]⟩ λx T'=>x=fZ (aD cs off n) pas∧T'=⟨[.row cs],[]⟩:=by
 have hb:=hr.is
 have hS:bk prog ah (aI [(kS,Gp),(jb,mm .i64 1),(ne,mm .i64 2),(BS,mm .u32 4),(kT,nJ),(nE,Ou)]):=aQ λp hp=>by
  rcases mem_cons.1 hp with rfl | hp;exact KB
  rcases mem_cons.1 hp with rfl | hp;exact λro ys T K h=>ra _ _ _ _ (nv h)
  rcases mem_cons.1 hp with rfl | hp;exact λro ys T K h=>va _ _ _ _ (nv h)
  rcases mem_cons.1 hp with rfl | hp;exact λro ys T K h=>PQ _ _ _ _ (nv h)
  rcases mem_cons.1 hp with rfl | hp;exact oY
  obtain rfl:=mem_singleton.1 hp;exact TC
 have hX:=zM pas hb
 refine VCx.leRow hr.ren hX (aj ag ac hS ai (Uv cs off n pas _) ?_)
 clear hX
 by_cases h10:(aD cs off n).length<10
 ·refine aU (decide_eq_true (by rw [iN] at h10;omega)) ⟨?_,rfl⟩
  unfold fZ;rw [if_pos h10];exact bw 0
 refine aO (decide_eq_false (by rw [iN] at h10;omega)) ⟨⟨rfl,hr⟩,⟨rfl,hb⟩,?_⟩
 generalize aD cs off n=b at*
 intro z bz az ez hq
 have hbz:IsB bz:=by rw [hq.2.1];exact aH hb
 refine ak (λh=> ?_) (λh=> ?_)
 ·refine ⟨?_,rfl⟩
  have h4:=bX h;rw [hq.1] at h4
  unfold fZ;rw [if_neg h10,if_pos h4];exact wy _
 have h4:=bZ h;rw [hq.1] at h4
 have hX:fZ b pas=n9 bz ez pas:=by unfold fZ;rw [if_neg h10,if_neg (λc=>c h4),hq.2.1,hq.2.2];rfl
 refine ⟨⟨rfl,hbz⟩,?_⟩
 intro n b2 a2 e2 hq2
 have hb2:IsB b2:=by rw [hq2.2.1];exact aH hbz
 refine ⟨⟨rfl,hb2⟩,?_⟩
 intro hh b3 a3 e3 hq3
 have hb3:IsB b3:=by rw [hq3.2.1];exact aH hb2
 refine ⟨⟨rfl,hb3⟩,?_⟩
 intro i b4 a4 e4 hq4
 have hb4:IsB b4:=by rw [hq4.2.1];exact aH hb3
 refine ⟨⟨rfl,hb4⟩,?_⟩
 intro k b5 a5 e5 hq5
 have hb5:IsB b5:=by rw [hq5.2.1];exact aH hb4
 have hM:fZ b pas=fJ n hh i k b5 e5 pas:=by
  rw [hX]
  obtain ⟨rfl,rfl,rfl⟩:=hq2
  obtain ⟨rfl,rfl,rfl⟩:=hq3
  obtain ⟨rfl,rfl,rfl⟩:=hq4
  obtain ⟨rfl,rfl,rfl⟩:=hq5
  rfl
 clear hX hq hq2 hq3 hq4 hq5
 rw [hM]
 refine ak (λc1=> ?_) (λc1=> ?_)
 ·rw [H5 (bM c1)];exact ⟨bw 2,rfl⟩
 have d1:=bB c1
 refine ak (λc2=> ?_) (λc2=> ?_)
 ·have d2:=of_decide_eq_true c2
  refine ak (λc3=> ?_) (λc3=> ?_)
  ·rw [H6 d1 d2 (bX c3)];exact ⟨bw 2,rfl⟩
  ·have d3:¬(pas≥1∧¬n=pas):=λc=>c.2 (bZ c3)
   refine ak (λc4=> ?_) (λc4=> ?_)
   ·have d4:hh=0∨(hh≥3∧hh≤65535):=.inl (bM c4)
    refine ak (λc5=> ?_) (λc5=> ?_)
    ·rw [qb d1 d3 d4 (bM c5)];exact ⟨bw 3,rfl⟩
    refine ⟨⟨rfl,hb5⟩,?_⟩
    refine ak (λc6=> ?_) (λc6=> ?_)
    ·rw [qc d1 d3 d4 (bB c5) (bX c6)];exact ⟨bw 0,rfl⟩
    refine ⟨⟨rfl,hb5⟩,λby6 ay6 ey6=> ?_⟩
    rw [qd d1 d3 d4 (bB c5) (bZ c6)]
    cases eA b5 e5
    ·exact ⟨bw _,rfl⟩
    ·refine ⟨?_,rfl⟩
     exact oB _ _ _ _ _
   ·have d0:=bB c4
    refine ak (λc4a=> ?_) (λc4a=> ?_)
    ·have d4a:=of_decide_eq_true c4a
     refine ak (λc4b=> ?_) (λc4b=> ?_)
     ·have d4:¬(hh=0∨(hh≥3∧hh≤65535)):=by
       have:=of_decide_eq_false (show decide (hh≤65535)=false by cases h:decide (hh≤65535)<;>simp_all)
       omega
      rw [kL d1 d3 d4];exact ⟨bw 6,rfl⟩
     ·have d4:hh=0∨(hh≥3∧hh≤65535):=.inr ⟨d4a,of_decide_eq_true (by simpa using c4b)⟩
      refine ak (λc5=> ?_) (λc5=> ?_)
      ·rw [qb d1 d3 d4 (bM c5)];exact ⟨bw 3,rfl⟩
      refine ⟨⟨rfl,hb5⟩,?_⟩
      refine ak (λc6=> ?_) (λc6=> ?_)
      ·rw [qc d1 d3 d4 (bB c5) (bX c6)];exact ⟨bw 0,rfl⟩
      refine ⟨⟨rfl,hb5⟩,λby6 ay6 ey6=> ?_⟩
      rw [qd d1 d3 d4 (bB c5) (bZ c6)]
      cases eA b5 e5
      ·exact ⟨bw _,rfl⟩
      ·refine ⟨?_,rfl⟩
       exact oB _ _ _ _ _
    ·have d4a:=of_decide_eq_false c4a
     have d4:¬(hh=0∨(hh≥3∧hh≤65535)):=by omega
     rw [kL d1 d3 d4];exact ⟨bw 6,rfl⟩
 ·have d3:¬(pas≥1∧¬n=pas):=λc=>of_decide_eq_false c2 c.1
  refine ak (λc4=> ?_) (λc4=> ?_)
  ·have d4:hh=0∨(hh≥3∧hh≤65535):=.inl (bM c4)
   refine ak (λc5=> ?_) (λc5=> ?_)
   ·rw [qb d1 d3 d4 (bM c5)];exact ⟨bw 3,rfl⟩
   refine ⟨⟨rfl,hb5⟩,?_⟩
   refine ak (λc6=> ?_) (λc6=> ?_)
   ·rw [qc d1 d3 d4 (bB c5) (bX c6)];exact ⟨bw 0,rfl⟩
   refine ⟨⟨rfl,hb5⟩,λby6 ay6 ey6=> ?_⟩
   rw [qd d1 d3 d4 (bB c5) (bZ c6)]
   cases eA b5 e5
   ·exact ⟨bw _,rfl⟩
   ·refine ⟨?_,rfl⟩
    exact oB _ _ _ _ _
  ·have d0:=bB c4
   refine ak (λc4a=> ?_) (λc4a=> ?_)
   ·have d4a:=of_decide_eq_true c4a
    refine ak (λc4b=> ?_) (λc4b=> ?_)
    ·have d4:¬(hh=0∨(hh≥3∧hh≤65535)):=by
      have:=of_decide_eq_false (show decide (hh≤65535)=false by cases h:decide (hh≤65535)<;>simp_all)
      omega
     rw [kL d1 d3 d4];exact ⟨bw 6,rfl⟩
    ·have d4:hh=0∨(hh≥3∧hh≤65535):=.inr ⟨d4a,of_decide_eq_true (by simpa using c4b)⟩
     refine ak (λc5=> ?_) (λc5=> ?_)
     ·rw [qb d1 d3 d4 (bM c5)];exact ⟨bw 3,rfl⟩
     refine ⟨⟨rfl,hb5⟩,?_⟩
     refine ak (λc6=> ?_) (λc6=> ?_)
     ·rw [qc d1 d3 d4 (bB c5) (bX c6)];exact ⟨bw 0,rfl⟩
     refine ⟨⟨rfl,hb5⟩,λby6 ay6 ey6=> ?_⟩
     rw [qd d1 d3 d4 (bB c5) (bZ c6)]
     cases eA b5 e5
     ·exact ⟨bw _,rfl⟩
     ·refine ⟨?_,rfl⟩
      exact oB _ _ _ _ _
   ·have d4a:=of_decide_eq_false c4a
    have d4:¬(hh=0∨(hh≥3∧hh≤65535)):=by omega
    rw [kL d1 d3 d4];exact ⟨bw 6,rfl⟩
section
variable {P:Program}{G:aV}
theorem KC {t e:TypeId}{x i:Operand}{l:List (Nat × TV)}{inf:TypeInfo}{id off n:Nat}{k:IntKind}{z:Int}(ht:P.underlying t=some (.slice e))(hi:P.info? e=some inf)
  (hx:aL G l x=.row inf.size id off n) (hz:aL G l i=.val (.int k z)) (h0:0≤z) (h1:z.toNat<n):ba P G (.slice t x (some i) none none) l (.row inf.size id (off+z.toNat) (n-z.toNat)):=by
 refine ⟨?_⟩
 have h2:beq z.toNat n=false:=by
  cases hb:beq z.toNat n
  ·rfl
  ·have:=Nat.eq_of_beq_eq_true hb;omega
 have h3:ble z.toNat n=true:=ble_eq_true_of_le (by omega)
 have h4:ble n n=true:=ble_eq_true_of_le (le_refl _)
 have hlow:fq (some (aL G l i))=some z.toNat:=by simp [fq,fp,hz,h0]
 have hR:gp P t (aL G l x) (some (aL G l i)) none none=some (.row inf.size id (off+z.toNat) (n-z.toNat)):=by
  rw [hx]
  simp only [gp,ht,hi,hlow,td]
  generalize z.toNat=w at h1 h2 h3 ⊢
  cases w with
  |zero=>simp [h4,beq_refl,ble_eq_true_of_le (zero_le n)]
  |succ w=>simp [h2,h3,h4,beq_refl]
 simp [bu,iU,hR]
end
theorem px {G:aV}{x i:Operand}{l:List (Nat × TV)}{id off n:Nat}{k:IntKind}{z:Int}(hx:aL G l x=.row 1 id off n)(hz:aL G l i=.val (.int k z))(h0:0≤z)(h1:z<n):ba prog G (.indexAddr 22 x i) l (.ptr id (off+z.toNat)):=by
 obtain ⟨inf,i1,i2,_,_⟩:=dj
 have h:=CZ (P:=prog) (G:=G) (t:=22) (x:=x) (i:=i) (l:=l) (inf:=inf) (id:=id) (off:=off) (n:=n) underlying22 i1 (by rw [i2];exact hx) hz h0 h1
 rw [i2,mul_one,mul_one] at h
 exact h
theorem ut {G:aV}{x i:Operand}{l:List (Nat × TV)}{id off n:Nat}{k:IntKind}{z:Int}(hx:aL G l x=.row 1 id off n)(hz:aL G l i=.val (.int k z))(h0:0≤z)(h1:z.toNat<n):ba prog G (.slice 22 x (some i) none none) l (.row 1 id (off+z.toNat) (n-z.toNat)):=by
 obtain ⟨inf,i1,i2,_,_⟩:=dj
 have h:=KC (P:=prog) (G:=G) (t:=22) (x:=x) (i:=i) (l:=l) (inf:=inf) (id:=id) (off:=off) (n:=n) underlying22 i1 (by rw [i2];exact hx) hz h0 h1
 rw [i2] at h
 exact h
theorem yu {l:List Int}(h:19≤l.length):∃(z0 z1 z2 z3 z4 z5 z6 z7 z8 z9 z10 z11 z12 z13 z14 z15 z16 z17 z18:Int) (l2:List Int),l=z0::z1::z2::z3::z4::z5::z6::z7::z8::z9::z10::z11::z12::z13::z14::z15::z16::z17::z18::l2:=by
 obtain ⟨z0,l0,e0,h0⟩:=dY h
 subst e0
 obtain ⟨z1,l1,e1,h1⟩:=dY h0
 subst e1
 obtain ⟨z2,l2,e2,h2⟩:=dY h1
 subst e2
 obtain ⟨z3,l3,e3,h3⟩:=dY h2
 subst e3
 obtain ⟨z4,l4,e4,h4⟩:=dY h3
 subst e4
 obtain ⟨z5,l5,e5,h5⟩:=dY h4
 subst e5
 obtain ⟨z6,l6,e6,h6⟩:=dY h5
 subst e6
 obtain ⟨z7,l7,e7,h7⟩:=dY h6
 subst e7
 obtain ⟨z8,l8,e8,h8⟩:=dY h7
 subst e8
 obtain ⟨z9,l9,e9,h9⟩:=dY h8
 subst e9
 obtain ⟨z10,l10,e10,h10⟩:=dY h9
 subst e10
 obtain ⟨z11,l11,e11,h11⟩:=dY h10
 subst e11
 obtain ⟨z12,l12,e12,h12⟩:=dY h11
 subst e12
 obtain ⟨z13,l13,e13,h13⟩:=dY h12
 subst e13
 obtain ⟨z14,l14,e14,h14⟩:=dY h13
 subst e14
 obtain ⟨z15,l15,e15,h15⟩:=dY h14
 subst e15
 obtain ⟨z16,l16,e16,h16⟩:=dY h15
 subst e16
 obtain ⟨z17,l17,e17,h17⟩:=dY h16
 subst e17
 obtain ⟨z18,l18,e18,h18⟩:=dY h17
 subst e18
 exact ⟨z0,z1,z2,z3,z4,z5,z6,z7,z8,z9,z10,z11,z12,z13,z14,z15,z16,z17,z18,l18,rfl⟩
theorem vu {l:List Int}{off n:Nat}(h:RwOk (l.map fA) off n):aD (l.map fA) off n=bV ((l.drop off).take n):=oe (by have:=h.1;rwa [length_map] at this)
set_option maxHeartbeats 1000000 in
theorem UE {cs:List TV}{n:Nat}(hr:RwOk cs 19 n)(hn:2≤n):VCx prog ah 0 Do [.row 1 0 19 n] ⟨[.row cs],[]⟩ λx T'=>x=tZ (aD cs 19 n)∧T'=⟨[.row cs],[]⟩:=by
 have hb:=hr.is
 refine VCx.leRow hr.ren (zW hb) ?_
 obtain ⟨m,rfl⟩:∃m,n=m+2:=⟨n-2,by omega⟩
 have hr0:=hr
 obtain ⟨h1,h2,l,rfl,hz⟩:=hr
 rw [length_map] at h1 h2
 obtain ⟨z0,z1,z2,z3,z4,z5,z6,z7,z8,z9,z10,z11,z12,z13,z14,z15,z16,z17,z18,l2,rfl⟩:=yu (l:=l) (by omega)
 obtain ⟨y0,l3,e3,h3⟩:=dY (n:=m+1) (l:=l2) (by simp only [length_cons] at h1;omega)
 subst e3
 obtain ⟨y1,l4,e4,h4⟩:=dY (n:=m) (l:=l3) h3
 subst e4
 have hsb:=vu hr0
 have hsb2:aD ((z0::z1::z2::z3::z4::z5::z6::z7::z8::z9::z10::z11::z12::z13::z14::z15::z16::z17::z18::y0::y1::l4).map fA) 19 (m+2)=bT y0::bT y1::bV (l4.take m):=hsb
 have hr2:RwOk ((z0::z1::z2::z3::z4::z5::z6::z7::z8::z9::z10::z11::z12::z13::z14::z15::z16::z17::z18::y0::y1::l4).map fA) 21 m:=hr0.sub (by simp only [length_map,length_cons];omega)
 have hsb3:aD ((z0::z1::z2::z3::z4::z5::z6::z7::z8::z9::z10::z11::z12::z13::z14::z15::z16::z17::z18::y0::y1::l4).map fA) 21 m=bV (l4.take m):=vu hr2
 have i0:inZ y0:=hz y0 (by simp)
 have i1:inZ y1:=hz y1 (by simp)
 have hml:(bV (l4.take m)).length=m:=by rw [←hsb3];exact iN _ _ _
 rw [hsb2]
 have hq:iu (.val (.int .u8 z0)) (.val (.int .u8 z1)) (.val (.int .u8 z2)) (.val (.int .u8 z3)) (.val (.int .u8 z4)) (.val (.int .u8 z5)) (.val (.int .u8 z6)) (.val (.int .u8 z7)) (.val (.int .u8 z8)) (.val (.int .u8 z9)) (.val (.int .u8 z10)) (.val (.int .u8 z11)) (.val (.int .u8 z12)) (.val (.int .u8 z13)) (.val (.int .u8 z14)) (.val (.int .u8 z15)) (.val (.int .u8 z16)) (.val (.int .u8 z17)) (.val (.int .u8 z18)) (TV.val (Value.int u8 y0)::TV.val (Value.int u8 y1)::l4.map fA)=(z0::z1::z2::z3::z4::z5::z6::z7::z8::z9::z10::z11::z12::z13::z14::z15::z16::z17::z18::y0::y1::l4).map fA:=rfl
 have hO:fv (bT y0::bT y1::bV (l4.take m))=(decide (m≤4075)&& !decide (y0=0)):=by
  unfold fv
  have e1:2≤(bT y0::bT y1::bV (l4.take m)).length:=by simp
  rw [decide_eq_true e1,Bool.true_and]
  show (decide ((bV (l4.take m)).length≤4075)&& !decide (y0=0))=_
  rw [hml]
 have bad:fv (bT y0::bT y1::bV (l4.take m))=false→TVle (.tup [.agg [.val (.int .i64 0),.val (.int .i64 0),.val (.slice none 0 0)],.val (.bool false)]) (tZ (bT y0::bT y1::bV (l4.take m))):=λh=>by
  rw [up,h]
  exact .tup ⟨.agg ⟨.refl _,.refl _,.nil 1,trivial⟩,.refl _,trivial⟩
 by_cases hm0:m=0
 ·subst hm0
  refine aj ag ac (aQ λp hp=>by obtain rfl:=mem_singleton.1 hp;exact lp) ai (Rr (.val (.int .u8 z0)) (.val (.int .u8 z1)) (.val (.int .u8 z2)) (.val (.int .u8 z3)) (.val (.int .u8 z4)) (.val (.int .u8 z5)) (.val (.int .u8 z6)) (.val (.int .u8 z7)) (.val (.int .u8 z8)) (.val (.int .u8 z9)) (.val (.int .u8 z10)) (.val (.int .u8 z11)) (.val (.int .u8 z12)) (.val (.int .u8 z13)) (.val (.int .u8 z14)) (.val (.int .u8 z15)) (.val (.int .u8 z16)) (.val (.int .u8 z17)) (.val (.int .u8 z18)) y0 y1 (l4.map fA) _) ?_
  refine ⟨.nil,⟨rfl,rfl,trivial⟩,?_⟩
  rw [i0.wrap,i1.wrap]
  refine ak (λc1=> ?_) (λc1=> ?_)
  rotate_left
  ·exact ⟨bad (by rw [hO,decide_eq_true (show y0=0 by have:=of_decide_eq_false c1;have:=i0.1;omega)];simp),rfl⟩
  refine aU (decide_eq_true (by have:=i0.2;omega)) (aU (decide_eq_true i1.1) (aU (decide_eq_true (by have:=i1.2;omega)) ⟨?_,rfl⟩))
  have hy0:¬y0=0:=by have:=of_decide_eq_true c1;omega
  rw [up,show fv (bT y0::bT y1::bV (l4.take 0))=true by rw [hO,decide_eq_false hy0];rfl]
  exact .refl _
 refine aj ag ac (aQ λp hp=>by obtain rfl:=mem_singleton.1 hp;exact KA) ai (Ux (.val (.int .u8 z0)) (.val (.int .u8 z1)) (.val (.int .u8 z2)) (.val (.int .u8 z3)) (.val (.int .u8 z4)) (.val (.int .u8 z5)) (.val (.int .u8 z6)) (.val (.int .u8 z7)) (.val (.int .u8 z8)) (.val (.int .u8 z9)) (.val (.int .u8 z10)) (.val (.int .u8 z11)) (.val (.int .u8 z12)) (.val (.int .u8 z13)) (.val (.int .u8 z14)) (.val (.int .u8 z15)) (.val (.int .u8 z16)) (.val (.int .u8 z17)) (.val (.int .u8 z18)) y0 y1 (l4.map fA) m _) ?_
 refine ⟨px (z:=0) (n:=m+2) rfl rfl (by decide) (by omega),px (z:=1) (n:=m+2) rfl rfl (by decide) (by omega),ut (z:=2) (n:=m+2) rfl rfl (by decide) (by show 2<m+2;omega),⟨rfl,hr2⟩,⟨rfl,rfl,trivial⟩,?_⟩
 rw [i0.wrap,i1.wrap,hq,hsb3]
 refine ak (λc1=> ?_) (λc1=> ?_)
 rotate_left
 ·exact ⟨bad (by rw [hO,decide_eq_true (show y0=0 by have:=of_decide_eq_false c1;have:=i0.1;omega)];simp),rfl⟩
 refine aU (decide_eq_true (by have:=i0.2;omega)) (aU (decide_eq_true i1.1) (aU (decide_eq_true (by have:=i1.2;omega)) ?_))
 have hy0:¬y0=0:=by have:=of_decide_eq_true c1;omega
 by_cases h5:m≤4075
 ·refine aO (by rw [hml,decide_eq_true (show ((m:Nat):Int)≤4075 by omega)];rfl) ⟨?_,rfl⟩
  rw [up,show fv (bT y0::bT y1::bV (l4.take m))=true by rw [hO,decide_eq_true h5,decide_eq_false hy0];rfl]
  exact .refl _
 ·refine aU (by rw [hml,decide_eq_false (show ¬((m:Nat):Int)≤4075 by omega)];rfl) ⟨bad (by rw [hO,decide_eq_false h5];rfl),rfl⟩
theorem XP {z16 z17:Int}(h16:inZ z16)(h17:inZ z17):wrap u64 (↑(toNat (ofInt (IntKind.bits u64) (wrap u64 (wrap u64 (↑(toNat (ofInt (IntKind.bits u64) (wrap u64 ((0:Int)*(2:Int)^min (Int.toNat (8:Int)) (IntKind.bits u64))) ||| ofInt (IntKind.bits u64) (wrap u64 z16))):Int)*(2:Int)^min (Int.toNat (8:Int)) (IntKind.bits u64))) ||| ofInt (IntKind.bits u64) (wrap u64 z17))):Int)=(0*256+z16)*256+z17:=by
 have a:=h16.1;have b:=h16.2;have c:=h17.1;have d:=h17.2
 rw [cV (n:=0) (z:=z16) (by omega) (by omega) (by omega) (by omega),cV (n:=0*256+z16) (z:=z17) (by omega) (by omega) (by omega) (by omega)]
theorem Ru {cs:List TV}{n:Nat}(hr:RwOk cs 0 n)(hn:19≤n):VCx prog ah 0 Io [.row 1 0 0 n,.val (.int .i64 16)] ⟨[.row cs],[]⟩ λx T'=>x=.tup [.val (.int .i64 (fG (aD cs 0 n))),.val (.bool true)]∧T'=⟨[.row cs],[]⟩:=by
 refine VCx.leRow hr.ren (λ_ _=>rfl) ?_
 obtain ⟨m,rfl⟩:∃m,n=m+19:=⟨n-19,by omega⟩
 have hr0:=hr
 obtain ⟨h1,h2,l,rfl,hz⟩:=hr
 rw [length_map] at h1 h2
 obtain ⟨z0,z1,z2,z3,z4,z5,z6,z7,z8,z9,z10,z11,z12,z13,z14,z15,z16,z17,z18,l2,rfl⟩:=yu (l:=l) (by omega)
 have hsb:aD ((z0::z1::z2::z3::z4::z5::z6::z7::z8::z9::z10::z11::z12::z13::z14::z15::z16::z17::z18::l2).map fA) 0 (m+19)=b9 z0 z1 z2 z3 z4 z5 z6 z7 z8 z9 z10 z11 z12 z13 z14 z15 z16 z17 z18 (bV (l2.take m)):=vu hr0
 have i16:inZ z16:=hz z16 (by simp)
 have i17:inZ z17:=hz z17 (by simp)
 refine aj ag ac am ai (Uy z0 z1 z2 z3 z4 z5 z6 z7 z8 z9 z10 z11 z12 z13 z14 z15 z16 z17 z18 (l2.map fA) m _) ?_
 refine aO (by rw [bE (z:=((m+19:Nat):Int)-2) (by omega) (by omega),decide_eq_true (show (16:Int)≤((m+19:Nat):Int)-2 by omega)];rfl) ⟨ut (z:=16) (n:=m+19) rfl rfl (by decide) (by show 16<m+19;omega),?_,rfl⟩
 rw [XP i16 i17,hsb]
 have a:=i16.1;have b:=i16.2;have c:=i17.1;have d:=i17.2
 rw [bE (z:=(0*256+z16)*256+z17) (by omega) (by omega)]
 exact .refl _
theorem Rv:∀ro ys T K,Ny ro ys T K→VCx prog aS ro Io ys T K:=by
 intro ro ys T K hw
 unfold Ny at hw
 split at hw
 ·split at hw
  ·rename_i k off n _ cs ho
   obtain ⟨⟨hro,h,hn,rfl⟩,hk⟩:=hw
   exact VCx.atRow bH (le_of_ble_eq_true hro) ho h.ren (λf g=>rfl) (by simp [aB,TV.ren,bb]) (VCx.anyG (Ru h (le_of_ble_eq_true hn))) hk
  ·exact hw.elim
 ·exact hw.elim
def FzRw (cs:List TV)(T':VT)(x y:TV):Prop:=∃T2,FzLe T' x y T2∧T'.objs.length≤T2.objs.length∧T2.objs[0]?=some (.row cs)
theorem FzRw.le {cs:List TV}{T':VT}{x y:TV}(h:TVle x y)(h0:T'.objs[0]?=some (.row cs)):FzRw cs T' x y:=⟨T',.le h,le_refl _,h0⟩
theorem sC {cs:List TV}{z16 z17:Int}{T':VT}{id:Nat}(h:T'.objs[id+1]?=some (.row [.val (.int .u8 z16),.val (.int .u8 z17)]))(h0:T'.objs[0]?=some (.row cs)):FzRw cs T' (.row 1 (id+1) 0 2) (.vec 1 [bT z16,bT z17] .none):=
 ⟨_,.row (dI (es:= [bT z16,bT z17]) h (by intro e he;simp only [mem_cons,not_mem_nil,or_false] at he;rcases he with rfl | rfl<;>rfl)),Gn _ _,by simp only [VT.kill,getElem?_set];rw [if_neg (by omega)];exact h0⟩
section
variable {b:Bs}{cs:List TV}{pas:Int}
theorem mT {s:Int}{d:Bs}{dz:TV}{T':VT}(h:md b=.inl (s,d))(hd:FzRw cs T' dz (.vec 1 d .none)):FzRw cs T' (.tup [.val (.int .i64 0),.val (.int .i64 0),.agg [.val (.int .i64 1),.val (.int .i64 s),dz]]) (mp b):=by
 obtain ⟨T2,h1,h2⟩:=hd
 unfold mp D8
 rw [h]
 exact ⟨T2,.tup (.le (.le (.cons (.agg (.le (.le (.cons h1 .nil)))) .nil))),h2⟩
theorem Ej {n k:Int}{T':VT}(h:md b=.inr (n,k))(h0:T'.objs[0]?=some (.row cs)):FzRw cs T' (.tup [.val (.int .i64 n),.val (.int .i64 k),.agg [.val (.int .i64 0),.val (.int .i64 0),.val (.slice none 0 0)]]) (mp b):=by
 unfold mp D8
 rw [h]
 exact .le (.tup ⟨.refl _,.refl _,.agg ⟨.refl _,.refl _,.nil 1,trivial⟩,trivial⟩) h0
theorem mU {c s:Int}{d:Bs}{dz:TV}{T':VT}(h:fh b pas=.inl (c,s,d))(hd:FzRw cs T' dz (.vec 1 d .none)):FzRw cs T' (.tup [.agg [.val (.int .i64 0),.val (.int .i64 0),.val (.int .i64 0),.val (.int .u32 0),jG,jG,.val (.int .i64 0),jG,.val (.int .u32 0),.val (.int .i64 0),.val (.bool false),jG,.val (.int .i64 0),.val (.int .i64 0),jG],.agg [.val (.int .i64 c),.val (.int .i64 s),dz]]) (pu b pas):=by
 obtain ⟨T2,h1,h2⟩:=hd
 unfold pu Gk
 rw [h]
 exact ⟨T2,.tup (.cons (.le OT) (.cons (.agg (.le (.le (.cons h1 .nil)))) .nil)),h2⟩
theorem py {m:MsgS}{l:List TV}{T':VT}(h:fh b pas=.inr m)(hm:TVleL l m.cells)(h0:T'.objs[0]?=some (.row cs)):FzRw cs T' (.tup [.agg l,.agg [.val (.int .i64 0),.val (.int .i64 0),jG]]) (pu b pas):=by
 unfold pu Gk
 rw [h]
 exact .le (.tup ⟨.agg hm,.agg ⟨.refl _,.refl _,.nil 1,trivial⟩,trivial⟩) h0
end
set_option maxHeartbeats 1000000 in
theorem UF {cs:List TV}{n:Nat}(hr:RwOk cs 0 n)(hn:19≤n):VCx prog aS 0 sZ [.row 1 0 0 n] ⟨[.row cs],[]⟩ λx T'=>x=mp (aD cs 0 n)∧T'=⟨[.row cs],[]⟩:=by
 have hb:=hr.is
 refine VCx.fzRow hr.ren (lv hb) ?_
 obtain ⟨m,rfl⟩:∃m,n=m+19:=⟨n-19,by omega⟩
 have hr0:=hr
 obtain ⟨h1,h2,l,rfl,hz⟩:=hr
 rw [length_map] at h1 h2
 obtain ⟨z0,z1,z2,z3,z4,z5,z6,z7,z8,z9,z10,z11,z12,z13,z14,z15,z16,z17,z18,l2,rfl⟩:=yu (l:=l) (by omega)
 have hsb:aD ((z0::z1::z2::z3::z4::z5::z6::z7::z8::z9::z10::z11::z12::z13::z14::z15::z16::z17::z18::l2).map fA) 0 (m+19)=b9 z0 z1 z2 z3 z4 z5 z6 z7 z8 z9 z10 z11 z12 z13 z14 z15 z16 z17 z18 (bV (l2.take m)):=vu hr0
 have hq:yq z0 z1 z2 z3 z4 z5 z6 z7 z8 z9 z10 z11 z12 z13 z14 z15 z16 z17 z18 (l2.map fA)=(z0::z1::z2::z3::z4::z5::z6::z7::z8::z9::z10::z11::z12::z13::z14::z15::z16::z17::z18::l2).map fA:=rfl
 have i18:inZ z18:=hz z18 (by simp)
 rw [hsb] at hb
 have hl:¬(b9 z0 z1 z2 z3 z4 z5 z6 z7 z8 z9 z10 z11 z12 z13 z14 z15 z16 z17 z18 (bV (l2.take m))).length<19:=by simp [b9]
 have hP:=mR hl
 have hN:=zX (hb.drop 16)
 have hsz:mc (b9 z0 z1 z2 z3 z4 z5 z6 z7 z8 z9 z10 z11 z12 z13 z14 z15 z16 z17 z18 (bV (l2.take m)))= [bT z16,bT z17]:=rfl
 have hkd:yj (b9 z0 z1 z2 z3 z4 z5 z6 z7 z8 z9 z10 z11 z12 z13 z14 z15 z16 z17 z18 (bV (l2.take m)))= [bT z18]:=rfl
 have hk:nP (b9 z0 z1 z2 z3 z4 z5 z6 z7 z8 z9 z10 z11 z12 z13 z14 z15 z16 z17 z18 (bV (l2.take m)))=z18:=rfl
 change 0≤fG (b9 z0 z1 z2 z3 z4 z5 z6 z7 z8 z9 z10 z11 z12 z13 z14 z15 z16 z17 z18 (bV (l2.take m)))∧fG (b9 z0 z1 z2 z3 z4 z5 z6 z7 z8 z9 z10 z11 z12 z13 z14 z15 z16 z17 z18 (bV (l2.take m)))<65536 at hN
 rw [hsz,hkd,hk] at hP
 have hwk:wrap i64 z18=z18:=i18.wrap
 refine aj ag ac (aQ λp hp=>by obtain rfl:=mem_singleton.1 hp;exact Rv) ai (Uz z0 z1 z2 z3 z4 z5 z6 z7 z8 z9 z10 z11 z12 z13 z14 z15 z16 z17 z18 (sB z18) (Ef z18) (l2.map fA) m _) ?_
 rw [hq,hsb,hwk]
 generalize fG (b9 z0 z1 z2 z3 z4 z5 z6 z7 z8 z9 z10 z11 z12 z13 z14 z15 z16 z17 z18 (bV (l2.take m)))=n at hP hN
 refine ⟨⟨rfl,hr0,rfl,rfl⟩,px (z:=18) (n:=m+19) rfl rfl (by decide) (by omega),⟨rfl,trivial⟩,?_⟩
 change _root_.cond _ _ _
 have hall:=uq [z0,z1,z2,z3,z4,z5,z6,z7,z8,z9,z10,z11,z12,z13,z14,z15]
 refine ak (λc=> ?_) (λc=> ?_)
 ·have c2:(!cq (b9 z0 z1 z2 z3 z4 z5 z6 z7 z8 z9 z10 z11 z12 z13 z14 z15 z16 z17 z18 (bV (l2.take m))))=true:=Eq.trans (congrArg Bool.not hall).symm c
  have c3:cq (b9 z0 z1 z2 z3 z4 z5 z6 z7 z8 z9 z10 z11 z12 z13 z14 z15 z16 z17 z18 (bV (l2.take m)))=false:=by simpa using c2
  exact mT (by rw [hP,c3];rfl) (.le (.nil 1) rfl)
 have c2:(!cq (b9 z0 z1 z2 z3 z4 z5 z6 z7 z8 z9 z10 z11 z12 z13 z14 z15 z16 z17 z18 (bV (l2.take m))))=false:=Eq.trans (congrArg Bool.not hall).symm c
 have c3:cq (b9 z0 z1 z2 z3 z4 z5 z6 z7 z8 z9 z10 z11 z12 z13 z14 z15 z16 z17 z18 (bV (l2.take m)))=true:=by simpa using c2
 rw [c3,cond_true] at hP
 refine ak (λd1=> ?_) (λd1=> ?_)
 ·exact mT (by rw [hP,if_pos (.inl (of_decide_eq_true d1))]) (sC (id:=1) rfl rfl)
 replace d1:=of_decide_eq_false d1
 refine ak (λd2=> ?_) (λd2=> ?_)
 ·exact mT (by rw [hP,if_pos (.inr (of_decide_eq_true d2))]) (sC (id:=1) rfl rfl)
 replace d2:=of_decide_eq_false d2
 rw [if_neg (show ¬(n<19∨n>4096) by omega)] at hP
 refine ak (λd3=> ?_) (λd3=> ?_)
 ·exact ⟨px (z:=18) (n:=m+19) rfl rfl (by decide) (by omega),mT (by rw [hP,if_pos (.inl (of_decide_eq_true d3))];rfl) (.le (.vec 1 _ _) rfl)⟩
 replace d3:=of_decide_eq_false d3
 refine ak (λd4=> ?_) (λd4=> ?_)
 ·exact ⟨px (z:=18) (n:=m+19) rfl rfl (by decide) (by omega),mT (by rw [hP,if_pos (.inr (of_decide_eq_true d4))];rfl) (.le (.vec 1 _ _) rfl)⟩
 replace d4:=of_decide_eq_false d4
 rw [if_neg (show ¬(z18<1∨z18>4) by omega)] at hP
 refine ⟨yl (by omega) (by omega),?_⟩
 refine ak (λd5=> ?_) (λd5=> ?_)
 ·exact mT (by rw [hP,if_pos (.inl (of_decide_eq_true d5))]) (sC (id:=1) rfl rfl)
 replace d5:=of_decide_eq_false d5
 refine ak (λd6=> ?_) (λd6=> ?_)
 ·replace d6:=bM d6
  refine ak (λd7=> ?_) (λd7=> ?_)
  ·replace d7:=of_decide_eq_true d7
   exact mT (by rw [hP,if_pos (.inr ⟨d6,by omega⟩)]) (sC (id:=1) rfl rfl)
  ·replace d7:=of_decide_eq_false d7
   exact Ej (by rw [hP,if_neg (by omega)]) rfl
 ·replace d6:=bB d6
  exact Ej (by rw [hP,if_neg (by omega)]) rfl
theorem KD:∀ro ys T K,Eh ro ys T K→VCx prog aS ro sZ ys T K:=by
 intro ro ys T K hw
 unfold Eh at hw
 split at hw
 ·split at hw
  ·rename_i k off n _ cs ho
   obtain ⟨⟨hro,h,hn,rfl⟩,hk⟩:=hw
   refine VCx.atRow bH (le_of_ble_eq_true hro) ho h.ren (lv h.is) (by simp [aB,TV.ren,bb]) (UF h (le_of_ble_eq_true hn)) ?_
   cases hh:cK (aD cs 0 n)<;>rw [hh] at hk
   ·rw [rz hh];exact hk
   ·rw [ry hh];exact hk
  ·exact hw.elim
 ·exact hw.elim
theorem UG:∀ro ys T K,Kx ro ys T K→VCx prog aS ro FI ys T K:=by
 intro ro ys T K hw
 unfold Kx at hw
 split at hw
 ·split at hw
  ·rename_i k off n pas _ cs ho
   obtain ⟨⟨hro,h⟩,hk⟩:=hw
   refine VCx.atRow bH (le_of_ble_eq_true hro) ho h.ren (zM pas h.is) (by simp [aB,TV.ren,bb]) (VCx.anyG (UD h pas)) ?_
   cases hh:gl (aD cs off n) pas<;>rw [hh] at hk
   ·rw [Ea h.is hh];exact hk
   ·rw [D9 h.is hh];exact hk
  ·exact hw.elim
 ·exact hw.elim
theorem UH:∀ro ys T K,Ky ro ys T K→VCx prog aS ro Ge ys T K:=by
 intro ro ys T K hw
 unfold Ky at hw
 split at hw
 ·split at hw
  ·rename_i k off n _ cs ho
   obtain ⟨⟨hro,h⟩,hk⟩:=hw
   refine VCx.atRow bH (le_of_ble_eq_true hro) ho h.ren (zH h.is) (by simp [aB,TV.ren,bb]) (VCx.anyG (UC h)) ?_
   cases hh:gM (aD cs off n)<;>rw [hh] at hk
   ·rw [Ks hh];exact hk
   ·rw [Kr hh];exact hk
  ·exact hw.elim
 ·exact hw.elim
theorem UI:∀ro ys T K,Kz ro ys T K→VCx prog aS ro Do ys T K:=by
 intro ro ys T K hw
 unfold Kz at hw
 split at hw
 ·split at hw
  ·rename_i k off n _ cs ho
   obtain ⟨⟨hro,h,rfl,hn⟩,hk⟩:=hw
   refine VCx.atRow bH (le_of_ble_eq_true hro) ho h.ren (zW h.is) (by simp [aB,TV.ren,bb]) (VCx.anyG (UE h (le_of_ble_eq_true hn))) ?_
   rw [up]
   cases hh:fv (aD cs 19 n)<;>rw [hh] at hk<;>exact hk
  ·exact hw.elim
 ·exact hw.elim
theorem sD {b:Bs}(hl:¬b.length<19)(h:cK b=true):sB (cU b)≤bA b∧19≤bA b∧bA b≤4096:=by
 have hP:=mR hl
 unfold cK at h
 unfold cU bA
 rw [hP] at h ⊢
 cases h1:cq b<;>rw [h1] at h<;>simp only [cond_true,cond_false] at h ⊢
 ·cases h
 split at h
 ·rename_i p hp
  split at hp
  ·cases hp
  rename_i c1
  split at hp
  ·cases hp
  rename_i c2
  split at hp
  ·cases hp
  rename_i c3
  injection hp with hp
  rw [←hp]
  simp only
  omega
 ·cases h
theorem Gq:bk prog aS (aI [(sZ,Eh),(FI,Kx),(Ge,Ky),(Do,Kz)]):=aQ λp hp=>by
 rcases mem_cons.1 hp with rfl | hp;exact KD
 rcases mem_cons.1 hp with rfl | hp;exact UG
 rcases mem_cons.1 hp with rfl | hp;exact UH
 obtain rfl:=mem_singleton.1 hp;exact UI
set_option maxHeartbeats 1000000 in
theorem UJ {cs:List TV}{n:Nat}(hr:RwOk cs 0 n)(hn:19≤n)(pas:Int):VCx prog aS 0 Gl [.row 1 0 0 n,.val (.int .i64 pas)] ⟨[.row cs],[]⟩ λx T'=>x=pu (aD cs 0 n) pas∧T'=⟨[.row cs],[]⟩:=by
 have hb:=hr.is
 refine VCx.fzRow hr.ren (vk pas hb) ?_
 obtain ⟨m,rfl⟩:∃m,n=m+19:=⟨n-19,by omega⟩
 have hr0:=hr
 obtain ⟨h1,h2,l,rfl,hz⟩:=hr
 rw [length_map] at h1 h2
 obtain ⟨z0,z1,z2,z3,z4,z5,z6,z7,z8,z9,z10,z11,z12,z13,z14,z15,z16,z17,z18,l2,rfl⟩:=yu (l:=l) (by omega)
 have hsb:aD ((z0::z1::z2::z3::z4::z5::z6::z7::z8::z9::z10::z11::z12::z13::z14::z15::z16::z17::z18::l2).map fA) 0 (m+19)=b9 z0 z1 z2 z3 z4 z5 z6 z7 z8 z9 z10 z11 z12 z13 z14 z15 z16 z17 z18 (bV (l2.take m)):=vu hr0
 have hrw:RwOk ((z0::z1::z2::z3::z4::z5::z6::z7::z8::z9::z10::z11::z12::z13::z14::z15::z16::z17::z18::l2).map fA) 19 m:=hr0.sub (by simp only [length_map,length_cons] at h1 ⊢;omega)
 have hsw:aD ((z0::z1::z2::z3::z4::z5::z6::z7::z8::z9::z10::z11::z12::z13::z14::z15::z16::z17::z18::l2).map fA) 19 m=bV (l2.take m):=vu hrw
 have hwl:(bV (l2.take m)).length=m:=by rw [←hsw];exact iN _ _ _
 have hq:iu (.val (.int .u8 z0)) (.val (.int .u8 z1)) (.val (.int .u8 z2)) (.val (.int .u8 z3)) (.val (.int .u8 z4)) (.val (.int .u8 z5)) (.val (.int .u8 z6)) (.val (.int .u8 z7)) (.val (.int .u8 z8)) (.val (.int .u8 z9)) (.val (.int .u8 z10)) (.val (.int .u8 z11)) (.val (.int .u8 z12)) (.val (.int .u8 z13)) (.val (.int .u8 z14)) (.val (.int .u8 z15)) (.val (.int .u8 z16)) (.val (.int .u8 z17)) (.val (.int .u8 z18)) (l2.map fA)=(z0::z1::z2::z3::z4::z5::z6::z7::z8::z9::z10::z11::z12::z13::z14::z15::z16::z17::z18::l2).map fA:=rfl
 rw [hsb] at hb ⊢
 have hlen:¬(b9 z0 z1 z2 z3 z4 z5 z6 z7 z8 z9 z10 z11 z12 z13 z14 z15 z16 z17 z18 (bV (l2.take m))).length<19:=by simp [b9]
 have hln:(b9 z0 z1 z2 z3 z4 z5 z6 z7 z8 z9 z10 z11 z12 z13 z14 z15 z16 z17 z18 (bV (l2.take m))).length=m+19:=by simp only [b9,length_cons,hwl]
 have hsz:mc (b9 z0 z1 z2 z3 z4 z5 z6 z7 z8 z9 z10 z11 z12 z13 z14 z15 z16 z17 z18 (bV (l2.take m)))= [bT z16,bT z17]:=rfl
 have hdr:(b9 z0 z1 z2 z3 z4 z5 z6 z7 z8 z9 z10 z11 z12 z13 z14 z15 z16 z17 z18 (bV (l2.take m))).drop 19=bV (l2.take m):=rfl
 have hPl:=λc=>Eg (b:=b9 z0 z1 z2 z3 z4 z5 z6 z7 z8 z9 z10 z11 z12 z13 z14 z15 z16 z17 z18 (bV (l2.take m))) (pas:=pas) c hlen
 have hbad:=λc=>zY (b:=b9 z0 z1 z2 z3 z4 z5 z6 z7 z8 z9 z10 z11 z12 z13 z14 z15 z16 z17 z18 (bV (l2.take m))) (pas:=pas) c
 have hle:=λc=>sD (b:=b9 z0 z1 z2 z3 z4 z5 z6 z7 z8 z9 z10 z11 z12 z13 z14 z15 z16 z17 z18 (bV (l2.take m))) hlen c
 rw [hsz,hdr,hln] at hPl
 by_cases hm0:m=0
 ·subst hm0
  refine aj ag ac Gq ai (Rs (.val (.int .u8 z0)) (.val (.int .u8 z1)) (.val (.int .u8 z2)) (.val (.int .u8 z3)) (.val (.int .u8 z4)) (.val (.int .u8 z5)) (.val (.int .u8 z6)) (.val (.int .u8 z7)) (.val (.int .u8 z8)) (.val (.int .u8 z9)) (.val (.int .u8 z10)) (.val (.int .u8 z11)) (.val (.int .u8 z12)) (.val (.int .u8 z13)) (.val (.int .u8 z14)) (.val (.int .u8 z15)) (.val (.int .u8 z16)) (.val (.int .u8 z17)) (.val (.int .u8 z18)) (l2.map fA) pas _) ?_
  refine ⟨⟨rfl,hr0,rfl,rfl⟩,?_⟩
  rw [hq,hsb]
  refine ak (λc1=> ?_) (λc1=> ?_)
  rotate_left
  ·exact mU (hbad c1) (.le (.refl _) rfl)
  have hP:=hPl c1
  obtain ⟨hk,_,_⟩:=hle c1
  refine ak (λc2=> ?_) (λc2=> ?_)
  ·exact mU (hP.trans (if_pos (bX c2))) (sC (id:=4) rfl rfl)
  have hN:=bZ c2
  rw [if_neg (λc=>c hN)] at hP
  rw [hN] at hk
  refine ak (λc3=> ?_) (λc3=> ?_)
  ·rw [bM c3] at hk;exact absurd hk (by decide)
  rw [if_neg (bB c3)] at hP
  refine ak (λc5=> ?_) (λc5=> ?_)
  ·rw [bM c5] at hk;exact absurd hk (by decide)
  rw [if_neg (bB c5)] at hP
  refine ak (λc6=> ?_) (λc6=> ?_)
  ·rw [bM c6] at hk;exact absurd hk (by decide)
  rw [if_neg (bB c6)] at hP
  exact py hP ⟨.refl _,.refl _,.refl _,.refl _,.nil 2,.nil 2,.refl _,.nil 1,.refl _,.refl _,.refl _,.nil 2,.refl _,.refl _,.nil 1,trivial⟩ rfl
 refine aj ag ac Gq ai (UA (.val (.int .u8 z0)) (.val (.int .u8 z1)) (.val (.int .u8 z2)) (.val (.int .u8 z3)) (.val (.int .u8 z4)) (.val (.int .u8 z5)) (.val (.int .u8 z6)) (.val (.int .u8 z7)) (.val (.int .u8 z8)) (.val (.int .u8 z9)) (.val (.int .u8 z10)) (.val (.int .u8 z11)) (.val (.int .u8 z12)) (.val (.int .u8 z13)) (.val (.int .u8 z14)) (.val (.int .u8 z15)) (.val (.int .u8 z16)) (.val (.int .u8 z17)) (.val (.int .u8 z18)) (l2.map fA) m pas _) ?_
 refine ⟨⟨rfl,hr0,rfl,rfl⟩,?_⟩
 rw [hq,hsb,hsw]
 refine ak (λc1=> ?_) (λc1=> ?_)
 rotate_left
 ·exact mU (hbad c1) (.le (.refl _) rfl)
 have hP:=hPl c1
 obtain ⟨hkl,_,_⟩:=hle c1
 refine ak (λc2=> ?_) (λc2=> ?_)
 ·exact mU (hP.trans (if_pos (bX c2))) (sC (id:=4) rfl rfl)
 have hN:=bZ c2
 rw [if_neg (λc=>c hN)] at hP
 refine ⟨ut (z:=19) (n:=m+19) rfl rfl (by decide) (by show 19<m+19;omega),?_⟩
 refine ak (λc3=> ?_) (λc3=> ?_)
 ·rw [if_pos (bM c3)] at hP
  refine ⟨⟨rfl,hrw⟩,ak (λc4=> ?_) (λc4=> ?_)⟩
  ·exact py (hP.trans (by rw [show gl (bV (l2.take m)) pas=true from c4];rfl)) ⟨.refl _,.refl _,.refl _,.refl _,.refl _,.nil 2,.refl _,.nil 1,.refl _,.refl _,.refl _,.nil 2,.refl _,.refl _,.nil 1,trivial⟩ rfl
  ·exact mU (hP.trans (by rw [show gl (bV (l2.take m)) pas=false from c4];rfl)) (.le (.refl _) rfl)
 rw [if_neg (bB c3)] at hP
 refine ak (λc5=> ?_) (λc5=> ?_)
 ·rw [if_pos (bM c5)] at hP
  refine ⟨⟨rfl,hrw⟩,ak (λc4=> ?_) (λc4=> ?_)⟩
  ·exact py (hP.trans (by rw [show gM (bV (l2.take m))=true from c4];rfl)) ⟨.refl _,.refl _,.refl _,.refl _,.nil 2,.refl _,.refl _,.refl _,.refl _,.refl _,.refl _,.refl _,.refl _,.refl _,.nil 1,trivial⟩ rfl
  ·exact mU (hP.trans (by rw [show gM (bV (l2.take m))=false from c4];rfl)) (.le (.refl _) rfl)
 rw [if_neg (bB c5)] at hP
 refine ak (λc6=> ?_) (λc6=> ?_)
 ·rw [if_pos (bM c6)] at hP
  rw [bM c6,hN] at hkl
  have hm2:2≤m:=by
   have:sB 3=21:=by decide
   rw [this] at hkl;omega
  refine ⟨⟨rfl,hrw,rfl,ble_eq_true_of_le hm2⟩,ak (λc4=> ?_) (λc4=> ?_)⟩
  ·exact py (hP.trans (by rw [show fv (bV (l2.take m))=true from c4];rfl)) ⟨.refl _,.refl _,.refl _,.refl _,.nil 2,.nil 2,.refl _,.nil 1,.refl _,.refl _,.refl _,.nil 2,.refl _,.refl _,.refl _,trivial⟩ rfl
  ·exact mU (hP.trans (by rw [show fv (bV (l2.take m))=false from c4];rfl)) (sC (id:=4) rfl rfl)
 rw [if_neg (bB c6)] at hP
 exact py hP ⟨.refl _,.refl _,.refl _,.refl _,.nil 2,.nil 2,.refl _,.nil 1,.refl _,.refl _,.refl _,.nil 2,.refl _,.refl _,.nil 1,trivial⟩ rfl
section
variable {P:Program}{G:aV}
theorem Ir {ro:Nat}{T:VT}{t e tn:TypeId}{s x:Operand}{l:List (Nat × TV)}{inf:TypeInfo}{z:Value}{kn kq:IntKind}{m:Int}(ht:P.underlying t=some (.slice e))(htn:P.underlying tn=some (.int kn))(hi:P.info? e=some inf)(hz:inf.zero=some z)(hzs:z.cells.size=inf.size)(h0s:0<inf.size)
  (hz1:z.cells.toList.all oneCell'=true) (hs:aL G l s=.val (.slice none 0 0)) (hx:aL G l x=.val (.int kq m)) (h0:0<m) (hb:m.toNat*(inf.bytes+1)≤140737488355328):
  br P G ro T (.call ⟨.builtin .append,#[s,x],#[t,tn]⟩) l (.row inf.size T.objs.length 0 m.toNat) (T.newRow ((zeroCells z.cells m.toNat).toList.map .val)):=by
 refine .mk ?_
 have h1:bu P (.call ⟨.builtin .append,#[s,x],#[t,tn]⟩) (aL G l)=none:=by simp [bu,eJ]
 have h2:bs P T (.call ⟨.builtin .append,#[s,x],#[t,tn]⟩) (aL G l)=none:=by simp [bs,dV,jq]
 have hsl:gk (P.underlying tn)=false:=by rw [htn];rfl
 have h3:xf P T t tn (.val (.slice none 0 0)) (.val (.int kq m))=some (.row inf.size T.objs.length 0 m.toNat,T.newRow ((zeroCells z.cells m.toNat).toList.map .val)):=by
  unfold xf
  simp only [ht,htn,hi,hz,hzs,decide_eq_true h0,decide_eq_true h0s,decide_true,hz1,ble_eq_true_of_le hb,Bool.and_self,cond_true]
 simp only [gH,h1,h2,lH,hs,hx,hsl,h3,cond_false]
theorem og {ro:Nat}{T:VT}{t e tx:TypeId}{s x:Operand}{l:List (Nat × TV)}{inf:TypeInfo}{z:Value}{q0:List TV}{qs:List (List TV)}{id n:Nat}{cs:List TV}(ht:P.underlying t=some (.slice e))(hi:P.info? e=some inf)(hz:inf.zero=some z)(hzs:z.cells.size=inf.size)(hz1:z.cells.toList.all oneCell'=true)
  (hsl:gk (P.underlying tx)=true) (hs:aL G l s=.row inf.size id 0 n) (ho:T.objs[id]?=some (.row cs)) (hro:ro≤id) (hn:n*inf.size≤cs.length) (hr:cd T inf.size (aL G l x)=some (q0::qs)) (hb:(n+(q0::qs).length)*(inf.bytes+1)≤140737488355328):
  br P G ro T (.call ⟨.builtin .append,#[s,x],#[t,tx]⟩) l (.row inf.size T.objs.length 0 (n+(q0::qs).length)) ((T.kill id).newRow (cs.take (n*inf.size)++(q0::qs).flatten)):=by
 refine .mk ?_
 have h1:bu P (.call ⟨.builtin .append,#[s,x],#[t,tx]⟩) (aL G l)=none:=by simp [bu,eJ]
 have h2:bs P T (.call ⟨.builtin .append,#[s,x],#[t,tx]⟩) (aL G l)=none:=by simp [bs,dV,jq]
 have h4:lG P T t tx (.row inf.size id 0 n) (aL G l x)=none:=by simp [lG,ht]
 have h5:rQ P ro T t tx (.row inf.size id 0 n) (aL G l x)=none:=rfl
 have h3:lF P ro T t tx (.row inf.size id 0 n) (aL G l x)=some (.row inf.size T.objs.length 0 (n+(q0::qs).length),(T.kill id).newRow (cs.take (n*inf.size)++(q0::qs).flatten)):=by
  unfold lF
  simp only [ht,hi,hz,hr,hzs,decide_true,hz1,hsl,Bool.and_self,cond_true,beq_refl,ho,ble_eq_true_of_le hro,ble_eq_true_of_le hn,ble_eq_true_of_le hb]
 simp only [gH,h1,h2,lH,hs,hsl,h4,h5,h3,cond_true]
end
section
variable {P:Program}{G:aV}
def Gh.pickG (g:Gh)(is ks:List Nat):Gh:={g with obj:=λj=>(is[j]?).bind g.obj,tail:=λj=>(ks[j]?).bind g.tail}
theorem Bf (g:Gh)(is ks:List Nat):s9 g (g.pickG is ks) (bb is) (bb ks) where
 obj i i' b h1 h2:=by simp [Gh.pickG,kf h1,h2]
 tail k k' x h1 h2:=by simp [Gh.pickG,kf h1,h2]
 st _ _ h:=h
theorem RW.pickG {g:Gh}{T:VT}{w:World}(r:RW g T w){is ks:List Nat}(hi:is.Nodup)(hk:ks.Nodup)(hkl:∀k∈ks,k<T.tails.length):
  RW (g.pickG is ks) (T.give is ks) w:=by
 have k:=Bf g is ks
 have hobj:∀(j:Nat) o,(T.give is ks).objs[j]?=some o→o.live=true→∃i o0,is[j]?=some i∧T.objs[i]?=some o0∧o0.live=true∧o=o0.ren (bb is) (bb ks):=by
  intro j o h hl
  simp only [VT.give,List.getElem?_map,Option.map_eq_some_iff] at h
  obtain ⟨i,h1,rfl⟩:=h
  rw [VO.ren_live] at hl
  cases h2:T.objs[i]? with
  |none=>rw [h2] at hl;cases hl
  |some o0=>rw [h2] at hl;exact ⟨i,o0,h1,h2,hl,by simp⟩
 have hsub:∀(j:Nat) x,(g.pickG is ks).tail j=some x→∃k0,ks[j]?=some k0∧g.tail k0=some x:=λj x h=>by simpa [Gh.pickG,Option.bind_eq_some_iff] using h
 refine ⟨?_,?_,?_,r.st,r.fr,?_,?_,?_,?_,?_,?_,?_⟩
 ·intro j o h hl
  obtain ⟨i,o0,h1,h2,h3,rfl⟩:=hobj j o h hl
  obtain ⟨b,h4,h5,h6,h7⟩:=r.obj i o0 h2 h3
  exact ⟨b,by simp [Gh.pickG,h1,h4],h5.ren k,h6,h7⟩
 ·intro i j oi oj b h1 l1 h2 l2 b1 b2
  obtain ⟨i0,o1,a1,a2,a3,rfl⟩:=hobj i oi h1 l1
  obtain ⟨j0,o2,c1,c2,c3,rfl⟩:=hobj j oj h2 l2
  simp only [Gh.pickG,a1,c1,Option.bind_some] at b1 b2
  have:=r.inj i0 j0 o1 o2 b a2 a3 c2 c3 b1 b2
  subst this
  exact mr hi a1 c1
 ·intro id hid
  simp only [VT.give,length_map] at hid
  simp [Gh.pickG,List.getElem?_eq_none hid]
 ·intro j p h
  simp only [VT.give,List.getElem?_map,Option.map_eq_some_iff] at h
  obtain ⟨k0,h1,rfl⟩:=h
  have hlt:=hkl k0 (List.mem_of_getElem? h1)
  obtain ⟨x,h2,h3,h4,h5⟩:=r.tl k0 _ (List.getElem?_eq_getElem hlt)
  refine ⟨x,by simp [Gh.pickG,h1,h2],?_,?_,h5⟩
  ·rw [List.getElem?_eq_getElem hlt];exact h3
  ·rw [List.getElem?_eq_getElem hlt];exact h4
 ·intro j hj
  simp only [VT.give,length_map] at hj
  simp [Gh.pickG,List.getElem?_eq_none hj]
 ·intro i j x y b h1 h2 i1 i2
  obtain ⟨i0,a1,a2⟩:=hsub i x h1
  obtain ⟨j0,c1,c2⟩:=hsub j y h2
  have:=r.tinj i0 j0 x y b a2 c2 i1 i2
  subst this
  exact mr hk a1 c1
 ·intro i oi b j x h1 l1 b1 hx hin
  obtain ⟨i0,o1,a1,a2,a3,rfl⟩:=hobj i oi h1 l1
  obtain ⟨j0,c1,c2⟩:=hsub j x hx
  simp only [Gh.pickG,a1,Option.bind_some] at b1
  exact r.tobj i0 o1 b j0 x a2 a3 b1 c2 hin
 ·intro j x hx
  obtain ⟨j0,c1,c2⟩:=hsub j x hx
  exact r.own j0 x c2
 ·intro j x hx
  obtain ⟨j0,c1,c2⟩:=hsub j x hx
  exact r.own0 j0 x c2
 ·intro j x hx
  obtain ⟨j0,c1,c2⟩:=hsub j x hx
  exact r.tlo j0 x c2
theorem Evo.pickG {g0 g:Gh}{T0:VT}{w0 w:World}(r0:RW g0 T0 w0)(e:Evo g0 w0 g w){is ks:List Nat}(hp:∀j,j<T0.objs.length→is[j]?=some j)(hq:∀j,j<T0.tails.length→ks[j]?=some j)(hk:ks.Nodup):Evo g0 w0 (g.pickG is ks) w:=by
 refine ⟨e.os,e.tape,e.output,e.size,λid b hb=> ?_,e.st,e.fr,e.frb,e.frs,λk x hx=> ?_,λk x h1 h2=> ?_,e.csz⟩
 ·simp only [Gh.pickG,hp id (Cj r0 hb),Option.bind_some];exact e.obj id b hb
 ·simp only [Gh.pickG,hq k (qL r0 hx),Option.bind_some];exact e.tail k x hx
 ·simp only [Gh.pickG,Option.bind_eq_some_iff] at h2
  obtain ⟨k0,h3,h4⟩:=h2
  refine e.tnew k0 x ?_ h4
  by_cases hlt:k0<T0.tails.length
  ·have:=mr hk h3 (hq k0 hlt)
   subst this;exact h1
  ·exact r0.tout k0 (by omega)
end
section
variable {g:Gh}{w:World}
end
section
variable {P:Program}{G:aV}
end
section
variable {P:Program}{G:aV}
theorem VCx.pick {f:FuncId}{xs:List TV}{T:VT}{Q:TV→VT→Prop}(h:VCx P G 0 f xs T λx T'=>∃is ks:List Nat,(is.Nodup∧ks.Nodup∧(∀i∈is,i<T'.objs.length)∧(∀k∈ks,k<T'.tails.length)∧(∀j,j<T.objs.length→is[j]?=some j)∧(∀j,j<T.tails.length→ks[j]?=some j))∧Q (x.ren (bb is) (bb ks)) (T'.give is ks)):VCx P G 0 f xs T Q:=by
 intro g w us rw0 hG hx
 refine Calls.mono (h g w us rw0 hG hx) ?_
 rintro e w' ⟨v,x,g',T',he,⟨is,ks,⟨b1,b2,b3,b4,hp,hq0⟩,hq⟩,e',r',hv,hfx⟩
 refine ⟨v,_,g'.pickG is ks,T'.give is ks,he,hq,Evo.pickG rw0 e' hp hq0 b2,r'.pickG b1 b2 b4,hv.ren (Bf g' is ks),?_,λi hi=>absurd hi (not_lt_zero i),λi o b hi=>absurd hi (not_lt_zero i)⟩
 simp only [VT.give,length_map]
 rcases Nat.eq_zero_or_pos T.objs.length with h0 | h0
 ·omega
 ·have:=(List.getElem?_eq_some_iff.1 (hp (T.objs.length-1) (by omega))).1
  omega
end
abbrev vT:=38
abbrev yv:=63
def sE (n:Int)(y:TV)(T2:VT)(ro:Nat)(T:VT):Prop:=VCx prog ah ro yv [.val (.slice none 0 0),.val (.int .i64 n)] T λx T1=>x=y∧T1=T2
def Ek (gy:TV)(gT:VT):be:=λro ys T K=>match ys with
 |[.val (.slice none 0 0),.val (.int .i64 n)]=>sE n gy gT ro T∧K gy gT
 |_=>aR 84 default ys
def UK (y1 y2:TV)(T1 T2:VT):List TV→Option (TV × Option VT)
 |[.row _ 0 _ _,.vec _ (_::_) _]=>some (y1,some T1)
 |[.row _ (_+1) _ _,.vec _ (_::_) _]=>some (y2,some T2)
 |_=>none
def Is (y1 y2:TV)(T1 T2:VT):ki:=λo σ _=>match o.dst with
 |some d=>bif beq d 33 then UK y1 y2 T1 T2 σ else none
 |none=>none
theorem O1 (n:Int)(k:Nat)(W:List TV)(T:VT)(Q:TV→VT→Prop):au prog ah aZ (bc [(22,.row 1 0 0 k,some λT=>T.newRow W)]) 300 aG 0 yv [.val (.slice none 0 0),.val (.int .i64 n)] ap Q=
 (bif decide (n<(0:Int))
 then False
 else (bif decide (wrap i64 (n-wrap i64 ((↑(0:Nat):Int)-(↑(0:Nat):Int)))>(0:Int))
 then (br prog (λ_=>.none) 0 ap (.call ⟨(.builtin .append),#[(.tmp 20),(.tmp 21)],#[22,3]⟩) [(20,aY),(21,(ae (wrap i64 (n-wrap i64 ((↑(0:Nat):Int)-(↑(0:Nat):Int))))))] (.row 1 0 0 k) (oX W)∧
 Q qD (oX W))
 else Q aY ap)):=by kernel_rfl
theorem Rw (q r:List TV)(a b:Bs)(k:Nat)(W:List TV)(tok tok1 tok2:Tok)(y2:TV)(T0 T1 T2:VT)(Q:TV→VT→Prop):au prog ah (aI [(yv,Ek qD T0)]) (Is (oW k) y2 T1 T2) 300 aG 0 vT [.vec 1 [[.vec 1 (q::a) tok1],[.vec 1 (r::b) tok2]] tok] ap Q=
 (bif decide (wrap i64 ((0:Int)+(↑(length (q::a)):Int))<(0:Int))
 then False
 else (bif decide (wrap i64 (wrap i64 ((0:Int)+(↑(length (q::a)):Int))+(↑(length (r::b)):Int))<(0:Int))
 then False
 else (sE (wrap i64 (wrap i64 ((0:Int)+(↑(length (q::a)):Int))+(↑(length (r::b)):Int))) qD (T0) 0 ap∧
 (br prog (λ_=>.none) 0 (T0) (.call ⟨(.builtin .append),#[(.tmp 31),(.tmp 32)],#[22,22]⟩) [(31,qD),(32,(.vec 1 ([(q)]++a) tok1))] (oW k) (T1)∧
 (br prog (λ_=>.none) 0 (T1) (.call ⟨(.builtin .append),#[(.tmp 31),(.tmp 32)],#[22,22]⟩) [(31,(oW k)),(32,(.vec 1 ([(r)]++b) tok2))] (y2) (T2)∧
 Q (y2) (T2)))))):=by kernel_rfl
theorem UL (q:List TV)(a:Bs)(k:Nat)(W:List TV)(tok tok1 tok2:Tok)(T1:VT)(Q:TV→VT→Prop):au prog ah (aI [(yv,Ek qD (bC (.row W)))]) (Is (oW k) .dead T1 T1) 300 aG 0 vT [.vec 1 [[.vec 1 (q::a) tok1],[.vec 1 [] tok2]] tok] ap Q=
 (bif decide (wrap i64 ((0:Int)+(↑(length (q::a)):Int))<(0:Int))
 then False
 else (bif decide (wrap i64 (wrap i64 ((0:Int)+(↑(length (q::a)):Int))+(↑(0:Nat):Int))<(0:Int))
 then False
 else (sE (wrap i64 (wrap i64 ((0:Int)+(↑(length (q::a)):Int))+(↑(0:Nat):Int))) qD (oX W) 0 ap∧
 (br prog (λ_=>.none) 0 (oX W) (.call ⟨(.builtin .append),#[(.tmp 31),(.tmp 32)],#[22,22]⟩) [(31,qD),(32,(.vec 1 ([(q)]++a) tok1))] (oW k) (T1)∧
 Q (oW k) (T1))))):=by kernel_rfl
theorem UM (q:List TV)(a:Bs)(k:Nat)(W:List TV)(tok tok1 tok2:Tok)(T1:VT)(Q:TV→VT→Prop):au prog ah (aI [(yv,Ek qD (bC (.row W)))]) (Is (oW k) .dead T1 T1) 300 aG 0 vT [.vec 1 [[.vec 1 [] tok1],[.vec 1 (q::a) tok2]] tok] ap Q=
 (bif decide (wrap i64 (wrap i64 ((0:Int)+(↑(0:Nat):Int))+(↑(length (q::a)):Int))<(0:Int))
 then False
 else (sE (wrap i64 (wrap i64 ((0:Int)+(↑(0:Nat):Int))+(↑(length (q::a)):Int))) qD (oX W) 0 ap∧
 (br prog (λ_=>.none) 0 (oX W) (.call ⟨(.builtin .append),#[(.tmp 31),(.tmp 32)],#[22,22]⟩) [(31,qD),(32,(.vec 1 ([(q)]++a) tok2))] (oW k) (T1)∧
 Q (oW k) (T1)))):=by kernel_rfl
theorem UN (tok tok1 tok2:Tok)(Q:TV→VT→Prop):au prog ah (aI [(yv,Ek (.val (.slice none 0 0)) ap)]) aM 300 aG 0 vT [.vec 1 [[.vec 1 [] tok1],[.vec 1 [] tok2]] tok] ap Q=
 (sE 0 aY ap 0 ap∧
 Q aY ap):=by kernel_rfl
def zR (n:Nat):List TV:=(zeroCells (Value.int .u8 0).cells n).toList.map .val
theorem UO (f g:Nat→Option Nat)(n:Nat):aB f g (zR n)=zR n:=Ao _ _ _
theorem UP {n:Int}(h0:0<n)(h1:n≤64000000):VCx prog ah 0 yv [.val (.slice none 0 0),.val (.int .i64 n)] ⟨[],[]⟩ λx T1=>x=.row 1 0 0 0∧T1=⟨[.row (zR n.toNat)],[]⟩:=by
 obtain ⟨inf,i1,i2,i3,i4⟩:=dj
 refine aj ag ac am ai (O1 n n.toNat (zR n.toNat) ⟨[],[]⟩ _) ?_
 have e:wrap i64 (n-wrap i64 (((0:Nat):Int)-((0:Nat):Int)))=n:=by
  rw [show wrap i64 (((0:Nat):Int)-((0:Nat):Int))=0 from rfl,Int.sub_zero,bE (by omega) (by omega)]
 refine aO (decide_eq_false (by omega)) (aU (decide_eq_true (by rw [e];exact h0)) ⟨?_,rfl,rfl⟩)
 rw [e]
 have h:=Ir (P:=prog) (G:=ah) (ro:=0) (T:=⟨[],[]⟩) (t:=22) (tn:=3) (s:=.tmp 20) (x:=.tmp 21) (l:= [(20,.val (.slice none 0 0)),(21,.val (.int .i64 n))]) (inf:=inf) (m:=n) underlying22 Tryz.underlying3 i1 i4 (by rw [i2];rfl) (by rw [i2];decide) rfl rfl rfl h0 (by rw [i3];omega)
 rw [i2] at h
 exact h
theorem It {n:Int}(h0:0<n)(h1:n≤64000000)(ro:Nat)(T:VT):sE n (.row 1 T.objs.length 0 0) {T with objs:=T.objs++ [.row (zR n.toNat)]} ro T:=by
 unfold sE
 refine (VCx.lift (T:=T) [] [] aP nodup_nil nodup_nil (by simp) (by simp) (by simp) rfl (by rw [VT.give_nil];exact UP h0 h1) (λ_ _ _=>⟨zero_le _,zero_le _⟩)).mono ?_
 rintro z T' ⟨x,T'',⟨rfl,rfl⟩,rfl,rfl⟩
 refine ⟨by simp [TV.ren,bd],?_⟩
 rw [VT.back_nil]
 simp [VO.ren,UO]
theorem UQ (ro:Nat)(T:VT):sE 0 (.val (.slice none 0 0)) T ro T:=by
 unfold sE
 exact VCx.liftPure (y:=.val (.slice none 0 0)) aP (aj ag ac am ai (O1 0 0 [] ⟨[],[]⟩ _) ⟨rfl,rfl⟩) rfl (λ_ _=>rfl) ⟨rfl,rfl⟩
theorem UR {gy:TV}{gT:VT}:∀ro ys T K,Ek gy gT ro ys T K→VCx prog ah ro yv ys T K:=by
 intro ro ys T K hw
 unfold Ek at hw
 split at hw
 ·obtain ⟨h,hk⟩:=hw
  exact VCx.mono h λx T1 ⟨h1,h2⟩=>by subst h1 h2;exact hk
 ·exact hw.elim
theorem vv:∀l:List Int,(bV l).flatten=l.map fA
 |[]=>rfl
 |z::l=>by
  have:=vv l
  simp only [bV,map_cons,flatten_cons] at this ⊢
  rw [this];rfl
theorem zZ {w:Bs}(h:IsB w):RwOk w.flatten 0 w.length∧aD w.flatten 0 w.length=w:=by
 obtain ⟨⟨l,rfl,hz⟩,hl⟩:=h
 have hn:(bV l).length=l.length:=by simp [bV]
 rw [vv,hn]
 rw [hn] at hl
 refine ⟨⟨by simp,by simpa using hl,l,rfl,hz⟩,?_⟩
 rw [oe (by omega)]
 simp
theorem IsB.append {a b:Bs}(h:IsB a)(k:IsB b)(hl:(a++b).length≤32000000):IsB (a++b):=by
 obtain ⟨⟨l,rfl,hz⟩,_⟩:=h
 obtain ⟨⟨m,rfl,hy⟩,_⟩:=k
 refine ⟨⟨l++m,by simp [bV],λz h=> ?_⟩,hl⟩
 rcases mem_append.1 h with h | h
 ·exact hz z h
 ·exact hy z h
theorem El {w:Bs}(h:IsB w):w.flatten.length=w.length:=by
 obtain ⟨⟨l,rfl,_⟩,_⟩:=h
 rw [vv]
 simp [bV]
theorem Iu {gy:TV}{gT:VT}:bk prog ah (aI [(yv,Ek gy gT)]):=aQ λp hp=>by
 obtain rfl:=mem_singleton.1 hp;exact UR
theorem Rx {a b:Bs}{tok tok1 tok2:Tok}(ha:IsB a)(hb:IsB b)(hs:a.length+b.length≤32000000)(h0:0<a.length+b.length):VCx prog ah 0 vT [.vec 1 [[.vec 1 a tok1],[.vec 1 b tok2]] tok] ⟨[],[]⟩ λx T'=>x=.row 1 0 0 (a.length+b.length)∧T'=⟨[.row (a++b).flatten],[]⟩:=by
 obtain ⟨inf,i1,i2,i3,i4⟩:=dj
 have hW:RwOk (a++b).flatten 0 (a++b).length:=(zZ (IsB.append ha hb (by rw [length_append];exact hs))).1
 have hfa:=El ha
 have wr:∀m:Nat,m≤32000000→wrap i64 ((0:Int)+(m:Int))=(m:Int):=λm hm=>by rw [Int.zero_add,bE (by omega) (by omega)]
 have wr2:wrap i64 (wrap i64 ((0:Int)+(a.length:Int))+(b.length:Int))=((a.length+b.length:Nat):Int):=by rw [wr _ (by omega),bE (by omega) (by omega)];omega
 have fin:∀{i:Nat} {x:TV} {T:VT},x=.row 1 i 0 (a.length+b.length)→T.objs[i]?=some (.row (a++b).flatten)→∃is ks:List Nat,(is.Nodup∧ks.Nodup∧(∀j∈is,j<T.objs.length)∧(∀k∈ks,k<T.tails.length)∧(∀j,j<(⟨[],[]⟩:VT).objs.length→is[j]?=some j)∧(∀j,j<(⟨[],[]⟩:VT).tails.length→ks[j]?=some j))∧(x.ren (bb is) (bb ks)=.row 1 0 0 (a.length+b.length)∧T.give is ks=⟨[.row (a++b).flatten],[]⟩):=by
  rintro i x T rfl ho
  refine ⟨[i],[],⟨by simp,by simp,?_,by simp,by simp,by simp⟩,?_,?_⟩
  ·intro j hj
   obtain rfl:=mem_singleton.1 hj
   exact (List.getElem?_eq_some_iff.1 ho).1
  ·simp [TV.ren,bb]
  ·simp only [VT.give,map_cons,map_nil,ho,getD_some,hW.ren]
 refine VCx.pick ?_
 cases a with
 |nil=>
  cases b with
  |nil=>simp at h0
  |cons r b=>
   refine aj ag ac Iu ai (UM r b (b.length+1) (zR (b.length+1)) tok tok1 tok2 ⟨[.gone,.row (r::b).flatten],[]⟩ _) ?_
   have w1:wrap i64 (wrap i64 ((0:Int)+((0:Nat):Int))+(((r::b).length:Nat):Int))=((b.length+1:Nat):Int):=by
    rw [show wrap i64 ((0:Int)+((0:Nat):Int))=0 from rfl];exact wr _ (by simp only [length_nil,length_cons] at hs ⊢;omega)
   refine aO ?_ ⟨?_,?_,fin (i:=1) (by simp) rfl⟩
   ·exact decide_eq_false (by have e:=w1;simp only [length_cons] at e ⊢;rw [e];omega)
   ·have e:=w1
    simp only [length_cons] at e ⊢
    rw [e]
    exact It (n:=((b.length+1:Nat):Int)) (by omega) (by simp only [length_nil,length_cons] at hs;omega) 0 ⟨[],[]⟩
   ·have h:=og (P:=prog) (G:=ah) (ro:=0) (T:=⟨[.row (zR (b.length+1))],[]⟩) (t:=22) (tx:=22) (s:=.tmp 31) (x:=.tmp 32) (l:= [(31,.row 1 0 0 0),(32,.vec 1 (r::b) tok2)]) (inf:=inf) (id:=0) (n:=0) (cs:=zR (b.length+1)) (q0:=r) (qs:=b) underlying22 i1 i4 (by rw [i2];rfl) rfl rfl (by rw [i2];rfl) rfl (zero_le _) (by omega) (by rw [i2];rfl) (by rw [i3];simp only [length_nil,length_cons] at hs ⊢;omega)
    rw [i2,zero_mul,zero_add] at h
    exact h
 |cons q a=>
  cases b with
  |nil=>
   refine aj ag ac Iu ai (UL q a (a.length+1) (zR (a.length+1)) tok tok1 tok2 ⟨[.gone,.row (q::a).flatten],[]⟩ _) ?_
   have w1:wrap i64 ((0:Int)+(((q::a).length:Nat):Int))=((a.length+1:Nat):Int):=wr _ (by simp only [length_nil,length_cons] at hs ⊢;omega)
   have w2:wrap i64 (wrap i64 ((0:Int)+(((q::a).length:Nat):Int))+((0:Nat):Int))=((a.length+1:Nat):Int):=by
    rw [w1];exact bE (by omega) (by simp only [length_nil,length_cons] at hs;omega)
   simp only [length_cons] at w1 w2
   refine aO ?_ (aO ?_ ⟨?_,?_,fin (i:=1) (by simp) (by simp)⟩)
   ·exact decide_eq_false (by simp only [length_cons];rw [w1];omega)
   ·exact decide_eq_false (by simp only [length_cons];rw [w2];omega)
   ·simp only [length_cons];rw [w2]
    exact It (n:=((a.length+1:Nat):Int)) (by omega) (by simp only [length_nil,length_cons] at hs;omega) 0 ⟨[],[]⟩
   ·have h:=og (P:=prog) (G:=ah) (ro:=0) (T:=⟨[.row (zR (a.length+1))],[]⟩) (t:=22) (tx:=22) (s:=.tmp 31) (x:=.tmp 32) (l:= [(31,.row 1 0 0 0),(32,.vec 1 (q::a) tok1)]) (inf:=inf) (id:=0) (n:=0) (cs:=zR (a.length+1)) (q0:=q) (qs:=a) underlying22 i1 i4 (by rw [i2];rfl) rfl rfl (by rw [i2];rfl) rfl (zero_le _) (by omega) (by rw [i2];rfl) (by rw [i3];simp only [length_nil,length_cons] at hs ⊢;omega)
    rw [i2,zero_mul,zero_add] at h
    exact h
  |cons r b=>
   refine aj ag ac Iu ai (Rw q r a b (a.length+1) (zR ((q::a).length+(r::b).length)) tok tok1 tok2 (.row 1 2 0 ((q::a).length+(r::b).length)) ⟨[.row (zR ((q::a).length+(r::b).length))],[]⟩ ⟨[.gone,.row (q::a).flatten],[]⟩ ⟨[.gone,.gone,.row ((q::a).flatten++(r::b).flatten)],[]⟩ _) ?_
   have w1:=wr (q::a).length (by omega)
   refine aO ?_ (aO ?_ ⟨?_,?_,?_,fin (i:=2) rfl (by simp)⟩)
   ·rw [w1];exact decide_eq_false (by omega)
   ·rw [wr2];exact decide_eq_false (by omega)
   ·rw [wr2];exact It (n:=(((q::a).length+(r::b).length:Nat):Int)) (by omega) (by omega) 0 ⟨[],[]⟩
   ·have h:=og (P:=prog) (G:=ah) (ro:=0) (T:=⟨[.row (zR ((q::a).length+(r::b).length))],[]⟩) (t:=22) (tx:=22) (s:=.tmp 31) (x:=.tmp 32) (l:= [(31,.row 1 0 0 0),(32,.vec 1 (q::a) tok1)]) (inf:=inf) (id:=0) (n:=0) (cs:=zR ((q::a).length+(r::b).length)) (q0:=q) (qs:=a) underlying22 i1 i4 (by rw [i2];rfl) rfl rfl (by rw [i2];rfl) rfl (zero_le _) (by omega) (by rw [i2];rfl) (by rw [i3];omega)
    rw [i2,zero_mul,zero_add] at h
    exact h
   ·have h:=og (P:=prog) (G:=ah) (ro:=0) (T:=⟨[.gone,.row (q::a).flatten],[]⟩) (t:=22) (tx:=22) (s:=.tmp 31) (x:=.tmp 32) (l:= [(31,.row 1 1 0 (q::a).length),(32,.vec 1 (r::b) tok2)]) (inf:=inf) (id:=1) (n:=(q::a).length) (cs:=(q::a).flatten) (q0:=r) (qs:=b) underlying22 i1 i4 (by rw [i2];rfl) rfl rfl (by rw [i2];rfl) rfl (zero_le _) (by rw [i2];omega) (by rw [i2];rfl) (by rw [i3];omega)
    rw [i2,mul_one,List.take_of_length_le (by omega)] at h
    exact h
theorem Ry {tok tok1 tok2:Tok}:VCx prog ah 0 vT [.vec 1 [[.vec 1 [] tok1],[.vec 1 [] tok2]] tok] ⟨[],[]⟩ λx T'=>x=.val (.slice none 0 0)∧T'=⟨[],[]⟩:=
 aj ag ac Iu ai (UN tok tok1 tok2 _) ⟨UQ _ _,rfl,rfl⟩
--bumped 32
def gC (id:Nat):Code→Option Code
 | .region i ops d=>bif beq i id then some (.region i ops d) else none
 | .block _ c=>gC id c
 | .seq a b=>match gC id a with
  |some c=>some c
  |none=>gC id b
 | .cond _ a b=>match gC id a with
  |some c=>some c
  |none=>gC id b
 | .loop c=>gC id c
 | .scope c=>gC id c
 |_=>none
def ge (P:Program)(f:FuncId)(id:Nat):Code:=(gC id (xB P f)).getD .skip
def Iv (P:Program)(G:aV)(C:FuncId→Option be)(F2:ki)(n:Nat)(c:Code):cB:=λ_ ro σ T D K=>match c with
 | .region _ ops false=>wb P G aM (lg P C (vx P G C aM n λ_=>none)) (qV (vx P G C F2 n λ_=>none)) ro ops ops.toList σ T λσ T=>K .normal σ T D
 |_=>False
section
variable {P:Program}{G:aV}
theorem Rz {C:FuncId→Option be}(hm:P.follows .mixedOrders=true)(hB:jz P=true)(hC:bk P G C){F2:ki}{n:Nat}{c:Code}:∀rd ro σ T D K,Iv P G C F2 n c rd ro σ T D K→VWx P G rd ro c σ T D K:=by
 intro rd ro σ T D K h
 unfold Iv at h
 split at h
 ·exact xt (AE hB hC (uV hm hB hC n n (le_refl _) aM _ ai)) (AD (uV hm hB hC n n (le_refl _) F2 _ ai)) h
 ·exact h.elim
def Iw (i:Nat)(a:cB × Code)(j:Nat)(b:cB × Code):Nat→Option (cB × Code):=λk=>bif beq k i then some a else bif beq k j then some b else none
theorem RA {i j:Nat}{a b:cB × Code}(ha:∀rd ro σ T D K,a.1 rd ro σ T D K→VWx P G rd ro a.2 σ T D K)(hb:∀rd ro σ T D K,b.1 rd ro σ T D K→VWx P G rd ro b.2 σ T D K):dD P G (Iw i a j b):=by
 intro k W c h
 unfold Iw at h
 cases h1:beq k i
 ·rw [h1,cond_false] at h
  cases h2:beq k j
  ·rw [h2,cond_false] at h;cases h
  ·rw [h2,cond_true] at h
   cases h;exact hb
 ·rw [h1,cond_true] at h
  cases h;exact ha
end
def me (b:Bs)(pas:Int):Bool:=match fh b pas with
 | .inr _=>true
 | .inl _=>false
def Aa (M:MsgS)(b:Bs)(pas:Int):Prop:=fh b pas=.inr M
def Ix (c:Nat)(s:Int)(d:Bs)(b:Bs)(pas:Int):Prop:=fh b pas=.inl (((c+1:Nat):Int),s,d)
def Xd:MsgS:=⟨0,⟨0,0,0,[]⟩,⟨[],0,[],0,0,false,[]⟩,0,0,[]⟩
def O2:be:=λro ys T K=>match ys with
 |[.row 1 k off n,.val (.int .i64 pas)]=>match T.objs[k]? with
  |some (.row cs)=>(ble ro k=true∧RwOk cs off n∧ble 19 n=true∧off=0)∧bif me (aD cs off n) pas then ∀M:MsgS,Aa M (aD cs off n) pas→K (.tup [.agg M.cells,cD 0 0 []]) T else ∀(c:Nat) (s:Int) (d:Bs),Ix c s d (aD cs off n) pas→K (.tup [.agg Xd.cells,cD (ofNat (c+1)) s d]) T
  |_=>aR 80 default ys
 |_=>aR 83 default ys
def KE:be:=λ_ ys T K=>match ys with
 |[.vec 1 [[.vec 1 a _],[.vec 1 b _]] _]=>(IsB a∧IsB b∧ble (a.length+b.length) 32000000=true)∧bif beq (a.length+b.length) 0 then K (.val (.slice none 0 0)) T else K (.row 1 T.objs.length 0 (a.length+b.length)) {T with objs:=T.objs++ [.row (a++b).flatten]}
 |_=>aR 83 default ys
abbrev nR:=11
abbrev vU:=15
abbrev iO:=64
def gD:Code→Option (Code × Code)
 | .rangeFunc _ _ a b=>some (a,b)
 | .block _ c=>gD c
 | .seq a b=>match gD a with
  |some c=>some c
  |none=>gD b
 | .cond _ a b=>match gD a with
  |some c=>some c
  |none=>gD b
 | .loop c=>gD c
 | .scope c=>gD c
 |_=>none
noncomputable def eZ:Code:=match gD (xB prog nR) with
 |some (a,_)=>a
 |none=>.skip
noncomputable def dR:Code:=match gD (xB prog nR) with
 |some (_,b)=>b
 |none=>.skip
def fk (pas:Int)(x:TV)(c s:Int)(d:TV)(n:Int):VO:=.cells [.val (.bool true),.val (.int .i64 pas),x,.val (.int .i64 c),.val (.int .i64 s),d,.val (.int .i64 n)]
def XQ:List TV:= [.dead,.dead,.ptr 1 0,.dead,.dead,.dead,.ptr 3 0]++List.replicate 50 .dead
noncomputable def pA (pas c s n:Int)(d x l:TV)(ds:List TV)(tl:fR)(st:LoopState)(pe:Option Code):VT:=⟨[fk pas x c s d n,.cells [.ptr 0 0],.row ds,.cells [l],.cells [.ptr 0 0],.loop st pe XQ #[34,35] eZ dR],tl⟩
def XR:List TV:= [.yld 5,.ptr 4 0]++List.replicate 82 .dead
abbrev nf (M:MsgS):VO:=(Sp (MsgS.k M) (OpS.n (MsgS.op M)) (OpS.h (MsgS.op M)) (OpS.i (MsgS.op M)) (OpS.l (MsgS.op M)) (UpS.w (MsgS.u M)) (UpS.o (MsgS.u M)) (UpS.x (MsgS.u M)) (UpS.h (MsgS.u M)) (UpS.m (MsgS.u M)) (UpS.hm (MsgS.u M)) (UpS.n (MsgS.u M)) (MsgS.c M) (MsgS.s M) (MsgS.d M))
theorem Wz (pas n:Int)(N k k2:Nat)(r:Int)(x1 y73:TV)(l1:List (List TV))(tk1:Tok)(ds ds2:List TV)(tl tl2:fR)(Q:Exit→List TV→List VO→fR→List Nat→Nat→Prop):vx prog aS (aI [(sZ,Eh),(Gl,O2)]) (bc [(999998,.dead,none),(46,.row 1 2 0 k,none),(73,y73,none),(74,.val (.int .i64 r),some λT=>{T with objs:=T.objs.set 2 (.row ds2)}),(81,.row 1 2 0 k2,none)]) 300 (Iw 999997 (λ_ _ _ _ _ _=>False,.skip) 1000006 (Iv prog aS aZ (bc [(49,.vec 15 l1 tk1,some λT=>{T with tails:=tl2})]) 250 (ge prog iO 6),ge prog iO 6)) none 0 (cM prog iO 0) XR (pA pas 0 0 n jZ (tQ N) x1 ds tl .ready none) [] (λe σ T D=>Q e (pick [0,1] σ) (T.objs.take 6) T.tails D σ.length)=
 (bif decide ((↑N:Int)≥(19:Int))
 then (((@Eq (Bool) true true)∧
 (RwOk (ds) 0 (N)∧
 ((@Eq (Bool) (ble (19:Nat) N) true)∧
 (@Eq (Nat) 0 0))))∧
 (bif cK (aD ds (0:Nat) N)
 then (bif decide (bA (aD ds (0:Nat) N)>(↑N:Int))
 then Q .ret [(.yld 5),kG] [(wq pas N n),cw,(.row (ds)),(.cells [x1]),cw,(.loop .ready .none [.dead,.dead,eG,.dead,.dead,.dead,qC,.dead,.dead,.dead,.dead,.dead,.dead,.dead,.dead,.dead,.dead,.dead,.dead,.dead,.dead,.dead,.dead,.dead,.dead,.dead,.dead,.dead,.dead,.dead,.dead,.dead,.dead,.dead,.dead,.dead,.dead,.dead,.dead,.dead,.dead,.dead,.dead,.dead,.dead,.dead,.dead,.dead,.dead,.dead,.dead,.dead,.dead,.dead,.dead,.dead,.dead] #[34,35] eZ dR)] (tl) [] 84
 else (ba prog (λkk=>(bif beq kk (0:Nat) then (.some iC) else .none)) (.slice 22 (.tmp 44) .none (.some (.tmp 45)) .none) [(44,(tQ N)),(45,(ae (bA (aD ds (0:Nat) N))))] (tQ k)∧
 (((@Eq (Bool) true true)∧
 (RwOk (ds) 0 (k)∧
 ((@Eq (Bool) (ble (19:Nat) k) true)∧
 (@Eq (Nat) 0 0))))∧
 (bif me (aD ds (0:Nat) k) pas
 then (∀M:MsgS,(Aa (M) (aD ds (0:Nat) k) (pas)→((ge prog iO (6:Nat)=ge prog iO (6:Nat))∧
 (br prog (λkk=>(bif beq kk (0:Nat) then (.some iC) else .none)) 0 ⟨[(wq pas N n),cw,(bI ds),(.cells [x1]),cw,(.loop .busy .none [.dead,.dead,(.ptr 1 0),.dead,.dead,.dead,(.ptr 3 0),.dead,.dead,.dead,.dead,.dead,.dead,.dead,.dead,.dead,.dead,.dead,.dead,.dead,.dead,.dead,.dead,.dead,.dead,.dead,.dead,.dead,.dead,.dead,.dead,.dead,.dead,.dead,.dead,.dead,.dead,.dead,.dead,.dead,.dead,.dead,.dead,.dead,.dead,.dead,.dead,.dead,.dead,.dead,.dead,.dead,.dead,.dead,.dead,.dead,.dead] #[34,35] eZ dR),b8,(nf M),(nf M),b8],tl⟩ (.call ⟨(.builtin .append),#[(.tmp 46),(.tmp 48)],#[25,25]⟩) [(46,(x1)),(48,(.vec 15 [[(.val (.int .i64 (MsgS.k M))),(.val (.int .i64 (OpS.n (MsgS.op M)))),(.val (.int .i64 (OpS.h (MsgS.op M)))),(.val (.int .u32 (OpS.i (MsgS.op M)))),(.vec 2 (OpS.l (MsgS.op M)) .none),(.vec 2 (UpS.w (MsgS.u M)) .none),(.val (.int .i64 (UpS.o (MsgS.u M)))),(.vec 1 (UpS.x (MsgS.u M)) .none),(.val (.int .u32 (UpS.h (MsgS.u M)))),(.val (.int .i64 (UpS.m (MsgS.u M)))),(.val (.bool (UpS.hm (MsgS.u M)))),(.vec 2 (UpS.n (MsgS.u M)) .none),(.val (.int .i64 (MsgS.c M))),(.val (.int .i64 (MsgS.s M))),(.vec 1 (MsgS.d M) .none)]] .full))] (.vec 15 l1 tk1) ⟨[(wq pas N n),cw,(bI ds),(.cells [x1]),cw,(.loop .busy .none [.dead,.dead,(.ptr 1 0),.dead,.dead,.dead,(.ptr 3 0),.dead,.dead,.dead,.dead,.dead,.dead,.dead,.dead,.dead,.dead,.dead,.dead,.dead,.dead,.dead,.dead,.dead,.dead,.dead,.dead,.dead,.dead,.dead,.dead,.dead,.dead,.dead,.dead,.dead,.dead,.dead,.dead,.dead,.dead,.dead,.dead,.dead,.dead,.dead,.dead,.dead,.dead,.dead,.dead,.dead,.dead,.dead,.dead,.dead,.dead] #[34,35] eZ dR),b8,(nf M),(nf M),b8],tl2⟩∧
 (ba prog (λkk=>(bif beq kk (0:Nat) then (.some iC) else .none)) (.slice 22 (.tmp 71) (.some (.tmp 72)) .none .none) [(71,(tQ N)),(72,(ae (bA (aD ds (0:Nat) N))))] (y73)∧
 (br prog (λkk=>(bif beq kk (0:Nat) then (.some iC) else .none)) 0 ⟨[(wq pas N (wrap i64 (n+(1:Int)))),cw,(bI ds),(.cells [(.vec 15 l1 tk1)]),cw,(.loop .ready .none [.dead,.dead,(.ptr 1 0),.dead,.dead,.dead,(.ptr 3 0),.dead,.dead,.dead,.dead,.dead,.dead,.dead,.dead,.dead,.dead,.dead,.dead,.dead,.dead,.dead,.dead,.dead,.dead,.dead,.dead,.dead,.dead,.dead,.dead,.dead,.dead,.dead,.dead,.dead,.dead,.dead,.dead,.dead,.dead,.dead,.dead,.dead,.dead,.dead,.dead,.dead,.dead,.dead,.dead,.dead,.dead,.dead,.dead,.dead,.dead] #[34,35] eZ dR),b8,(nf M),(nf M),b8],tl2⟩ (.call ⟨(.builtin .copy),#[(.tmp 67),(.tmp 73)],#[22,22]⟩) [(67,(tQ N)),(73,(y73))] (ae r) ⟨[(wq pas N (wrap i64 (n+(1:Int)))),cw,(bI ds2),(.cells [(.vec 15 l1 tk1)]),cw,(.loop .ready .none [.dead,.dead,(.ptr 1 0),.dead,.dead,.dead,(.ptr 3 0),.dead,.dead,.dead,.dead,.dead,.dead,.dead,.dead,.dead,.dead,.dead,.dead,.dead,.dead,.dead,.dead,.dead,.dead,.dead,.dead,.dead,.dead,.dead,.dead,.dead,.dead,.dead,.dead,.dead,.dead,.dead,.dead,.dead,.dead,.dead,.dead,.dead,.dead,.dead,.dead,.dead,.dead,.dead,.dead,.dead,.dead,.dead,.dead,.dead,.dead] #[34,35] eZ dR),b8,(nf M),(nf M),b8],tl2⟩∧
 (ba prog (λkk=>(bif beq kk (0:Nat) then (.some iC) else .none)) (.slice 22 (.tmp 79) .none (.some (.tmp 80)) .none) [(79,(tQ N)),(80,(ae r))] (tQ k2)∧
 Q .normal [(.yld 5),kG] [(wq pas k2 (wrap i64 (n+(1:Int)))),cw,(.row (ds2)),(.cells [(.vec 15 l1 tk1)]),cw,(.loop .ready .none [.dead,.dead,eG,.dead,.dead,.dead,qC,.dead,.dead,.dead,.dead,.dead,.dead,.dead,.dead,.dead,.dead,.dead,.dead,.dead,.dead,.dead,.dead,.dead,.dead,.dead,.dead,.dead,.dead,.dead,.dead,.dead,.dead,.dead,.dead,.dead,.dead,.dead,.dead,.dead,.dead,.dead,.dead,.dead,.dead,.dead,.dead,.dead,.dead,.dead,.dead,.dead,.dead,.dead,.dead,.dead,.dead] #[34,35] eZ dR)] (tl2) [] 84)))))))
 else (∀c:Nat,(∀s:Int,(∀d:Bs,(Ix (c) (s) (d) (aD ds (0:Nat) k) (pas)→((ge prog iO (6:Nat)=ge prog iO (6:Nat))∧
 Q .ret [(.yld 5),kG] [(.cells [aF,(ae pas),aY,(ae (ofNat (c+(1:Nat)))),(ae s),(an d),(ae n)]),cw,(.row (ds)),(.cells [x1]),cw,(.loop .done (.some (Code.exit (0:Nat))) [.dead,.dead,eG,.dead,.dead,.dead,qC,.dead,.dead,.dead,.dead,.dead,.dead,.dead,.dead,.dead,.dead,.dead,.dead,.dead,.dead,.dead,.dead,.dead,.dead,.dead,.dead,.dead,.dead,.dead,.dead,.dead,.dead,.dead,.dead,.dead,.dead,.dead,.dead,.dead,.dead,.dead,.dead,.dead,.dead,.dead,.dead,.dead,.dead,.dead,.dead,.dead,.dead,.dead,.dead,.dead,.dead] #[34,35] eZ dR)] (tl) [] 84)))))))))
 else ((ge prog iO (6:Nat)=ge prog iO (6:Nat))∧
 Q .ret [(.yld 5),kG] [(.cells [aF,(ae pas),aY,eH,(ae (ga (aD ds (0:Nat) N))),(an (fH (aD ds (0:Nat) N))),(ae n)]),cw,(.row (ds)),(.cells [x1]),cw,(.loop .done (.some (Code.exit (0:Nat))) [.dead,.dead,eG,.dead,.dead,.dead,qC,.dead,.dead,.dead,.dead,.dead,.dead,.dead,.dead,.dead,.dead,.dead,.dead,.dead,.dead,.dead,.dead,.dead,.dead,.dead,.dead,.dead,.dead,.dead,.dead,.dead,.dead,.dead,.dead,.dead,.dead,.dead,.dead,.dead,.dead,.dead,.dead,.dead,.dead,.dead,.dead,.dead,.dead,.dead,.dead,.dead,.dead,.dead,.dead,.dead,.dead] #[34,35] eZ dR)] (tl) [] 84)))
 else Q (.exit 0) [(.yld 5),kG] [(wq pas N n),cw,(.row (ds)),(.cells [x1]),cw,(.loop .ready .none [.dead,.dead,eG,.dead,.dead,.dead,qC,.dead,.dead,.dead,.dead,.dead,.dead,.dead,.dead,.dead,.dead,.dead,.dead,.dead,.dead,.dead,.dead,.dead,.dead,.dead,.dead,.dead,.dead,.dead,.dead,.dead,.dead,.dead,.dead,.dead,.dead,.dead,.dead,.dead,.dead,.dead,.dead,.dead,.dead,.dead,.dead,.dead,.dead,.dead,.dead,.dead,.dead,.dead,.dead,.dead,.dead] #[34,35] eZ dR)] (tl) [] 84):=by kernel_rfl
--bumped 32
theorem Em {b:Bs}{pas:Int}{c s:Int}{d:Bs}(h:fh b pas=.inl (c,s,d)):∃k:Nat,c=((k+1:Nat):Int):=by
 unfold fh at h
 have go:∀{q:Int × Int × Bs},(q.1=1∨q.1=2∨q.1=3)→q=(c,s,d)→∃k:Nat,c=((k+1:Nat):Int):=by
  rintro q hq rfl
  rcases hq with h | h | h
  ·exact ⟨0,h⟩
  ·exact ⟨1,h⟩
  ·exact ⟨2,h⟩
 cases h1:cK b<;>rw [h1] at h<;>simp only [cond_true,cond_false] at h
 ·exact go (.inl rfl) (Sum.inl.inj h)
 split at h
 ·exact go (.inl rfl) (Sum.inl.inj h)
 split at h
 ·exact go (.inl rfl) (Sum.inl.inj h)
 split at h
 ·cases h2:gl (b.drop 19) pas<;>rw [h2] at h<;>simp only [cond_true,cond_false] at h
  ·exact go (.inr (.inl rfl)) (Sum.inl.inj h)
  ·cases h
 split at h
 ·cases h2:gM (b.drop 19)<;>rw [h2] at h<;>simp only [cond_true,cond_false] at h
  ·exact go (.inr (.inr rfl)) (Sum.inl.inj h)
  ·cases h
 split at h
 ·cases h2:fv (b.drop 19)<;>rw [h2] at h<;>simp only [cond_true,cond_false] at h
  ·exact go (.inl rfl) (Sum.inl.inj h)
  ·cases h
 cases h
theorem US:∀ro ys T K,O2 ro ys T K→VCx prog aS ro Gl ys T K:=by
 intro ro ys T K hw
 unfold O2 at hw
 split at hw
 ·split at hw
  ·rename_i k off n pas _ cs ho
   obtain ⟨⟨hro,h,hn,rfl⟩,hk⟩:=hw
   refine VCx.atRow bH (le_of_ble_eq_true hro) ho h.ren (vk pas h.is) (by simp [aB,TV.ren,bb]) (UJ h (le_of_ble_eq_true hn) pas) ?_
   unfold pu
   cases hP:fh (aD cs 0 n) pas with
   |inl p=>
    obtain ⟨c,s,d⟩:=p
    obtain ⟨j,rfl⟩:=Em hP
    rw [show me (aD cs 0 n) pas=false by unfold me;rw [hP],cond_false] at hk
    exact hk j s d hP
   |inr M=>
    rw [show me (aD cs 0 n) pas=true by unfold me;rw [hP],cond_true] at hk
    exact hk M hP
  ·exact hw.elim
 ·exact hw.elim
theorem Nz {ds:List TV}{N n:Nat}(h:RwOk ds 0 N)(hn:n≤N):RwOk (ci ds 0 (aD ds n (N-n)).flatten) 0 (N-n)∧aD (ci ds 0 (aD ds n (N-n)).flatten) 0 (N-n)=(aD ds 0 N).drop n:=by
 have hd:=Rn h hn
 rw [zero_add] at hd
 rw [hd]
 obtain ⟨h1,h2,l,rfl,hz⟩:=h
 rw [length_map] at h1 h2
 have hl:((l.drop n).take (N-n)).length=N-n:=by rw [List.length_take,length_drop];omega
 have e0:aD (l.map fA) n (N-n)=bV ((l.drop n).take (N-n)):=oe (by omega)
 have e1:ci (l.map fA) 0 (aD (l.map fA) n (N-n)).flatten=((l.drop n).take (N-n)++l.drop (N-n)).map fA:=by
  rw [e0,vv]
  simp only [ci,List.take_zero,nil_append,length_map,hl,zero_add,List.map_append,List.map_drop]
 have hl2:((l.drop n).take (N-n)++l.drop (N-n)).length=l.length:=by rw [length_append,hl,length_drop];omega
 rw [e1]
 refine ⟨⟨by rw [length_map,hl2];omega,by rw [length_map,hl2];exact h2,_,rfl,λz hz2=> ?_⟩,?_⟩
 ·rcases mem_append.1 hz2 with q | q
  ·exact hz z (List.mem_of_mem_drop (List.mem_of_mem_take q))
  ·exact hz z (List.mem_of_mem_drop q)
 ·rw [oe (by rw [hl2];omega),e0,List.drop_zero,List.take_append_of_le_length (by rw [hl];exact le_refl _),List.take_of_length_le (by rw [hl];exact le_refl _)]
theorem UT:∀ro ys T K,KE ro ys T K→VCx prog aS ro vT ys T K:=by
 intro ro ys T K hw
 unfold KE at hw
 split at hw
 ·rename_i a tok1 b tok2 tok
  obtain ⟨⟨ha,hb,hs⟩,hk⟩:=hw
  have hs:=le_of_ble_eq_true hs
  have hx:aB (bb []) (bb []) [.vec 1 [[.vec 1 a tok1],[.vec 1 b tok2]] tok]= [.vec 1 [[.vec 1 a (tok1.ren (bb []) (bb []))],[.vec 1 b (tok2.ren (bb []) (bb []))]] (tok.ren (bb []) (bb []))]:=by
   simp only [aB,bm,TV.ren,ha.ren,hb.ren]
  refine VCx.anyG ?_
  by_cases h0:a.length+b.length=0
  ·obtain rfl:a= []:=List.eq_nil_of_length_eq_zero (by omega)
   obtain rfl:b= []:=List.eq_nil_of_length_eq_zero (by omega)
   rw [show beq (([]:Bs).length+([]:Bs).length) 0=true from rfl,cond_true] at hk
   exact VCx.liftPure aP Ry hx (λ_ _=>rfl) hk
  ·have hbq:beq (a.length+b.length) 0=false:=by
    cases h:beq (a.length+b.length) 0
    ·rfl
    ·exact absurd (Nat.eq_of_beq_eq_true h) h0
   rw [hbq,cond_false] at hk
   have hW:RwOk (a++b).flatten 0 (a++b).length:=(zZ (IsB.append ha hb (by rw [length_append];exact hs))).1
   refine (VCx.lift (T:=T) [] [] aP nodup_nil nodup_nil (by simp) (by simp) (by simp) hx (by rw [VT.give_nil];exact Rx ha hb hs (by omega)) (λ_ _ _=>⟨zero_le _,zero_le _⟩)).mono ?_
   rintro z T' ⟨x,T'',⟨rfl,rfl⟩,rfl,rfl⟩
   rw [VT.back_nil]
   simp only [map_cons,map_nil,hW.ren,append_nil]
   simpa [TV.ren,bd] using hk
 ·exact hw.elim
def PxWf (l:Bs):Prop:=∃p:List (Int × Int),l=p.map fc∧p.length≤64000000
def IvWf (x:Bs):Prop:=∃l:List Int,x=iV l∧l.length≤64000000
def CpWf (l:Bs):Prop:=∃c:List (Int × Bs),l=c.map bS∧AllB c∧c.length≤64000000
def OpWf (o:OpS):Prop:=CpWf o.l
def UpWf (u:UpS):Prop:=PxWf u.w∧PxWf u.n∧IvWf u.x
def MsWf (m:MsgS):Prop:=OpWf m.op∧UpWf m.u∧IsB m.d
def NA (l l':Bs):Prop:=l=l'∧PxWf l
def UU (l l':List TV):Prop:=l=l'∧∃(o h m:Int) (hm:Bool) (x:Bs),IvWf x∧l= [.val (.int .i64 o),.vec 1 x .none,.val (.int .u32 h),.val (.int .i64 m),.val (.bool hm)]
def UV (l l':List TV):Prop:=l=l'∧∃o:OpS,OpWf o∧l=o.cells
def UW (l l':List TV):Prop:=l=l'∧∃u:UpS,UpWf u∧l=u.cells
def Ab (l l':List TV):Prop:=l=l'∧∃(c s:Int) (d:Bs),IsB d∧l= [.val (.int .i64 c),.val (.int .i64 s),.vec 1 d .none]
def UX (l l':List TV):Prop:=l=l'∧∃m:MsgS,MsWf m∧l=m.cells
theorem PxWf.nil:PxWf []:=⟨[],rfl,zero_le _⟩
theorem IvWf.nil:IvWf []:=⟨[],rfl,zero_le _⟩
theorem CpWf.nil:CpWf []:=⟨[],rfl,.nil,zero_le _⟩
theorem yw:UpWf lu:=⟨.nil,.nil,.nil⟩
theorem yx:OpWf Gj:=CpWf.nil
theorem Iy:MsWf m0:=⟨yx,yw,.nil⟩
theorem PxWf.ren {l:Bs}(h:PxWf l)(f g:Nat→Option Nat):bm f g l=l:=by
 obtain ⟨p,rfl,_⟩:=h
 exact pc f g p
theorem IvWf.ren {l:Bs}(h:IvWf l)(f g:Nat→Option Nat):bm f g l=l:=by
 obtain ⟨p,rfl,_⟩:=h
 exact eP f g p
theorem CpWf.ren {l:Bs}(h:CpWf l)(f g:Nat→Option Nat):bm f g l=l:=by
 obtain ⟨p,rfl,h2,_⟩:=h
 exact fY f g h2
theorem OpWf.ren {o:OpS}(h:OpWf o)(f g:Nat→Option Nat):aB f g o.cells=o.cells:=by
 simp only [OpS.cells,aB,TV.ren,CpWf.ren h,Tok.ren]
theorem UpWf.ren {u:UpS}(h:UpWf u)(f g:Nat→Option Nat):aB f g u.cells=u.cells:=by
 simp only [UpS.cells,aB,TV.ren,h.1.ren,h.2.1.ren,h.2.2.ren,Tok.ren]
theorem MsWf.ren {m:MsgS}(h:MsWf m):Nw m:=rA h.1.ren h.2.1.ren h.2.2.ren
theorem En:∀(k:Nat) (b:Bs) (acc l:List (Int × Int)),j7 k b acc=some l→l.length≤acc.length+b.length
 | 0,_,_,_,h=>by cases h
 |k+1,b,acc,l,h=>by
  unfold j7 at h
  by_cases hl:bo b 0>0
  ·rw [decide_eq_true hl] at h
   cases h2:bp b 0<;>rw [h2] at h
   ·cases h
   ·have h3:=En k _ _ _ h
    have h4:=tW hl
    simp only [length_append,length_cons,length_nil] at h3
    omega
  ·rw [decide_eq_false hl] at h
   injection h with h;subst h;omega
theorem KF {b:Bs}(hb:b.length≤32000000):PxWf (aK b):=by
 refine ⟨(xX b).getD [],rfl,?_⟩
 cases h:xX b with
 |none=>exact zero_le _
 |some l=>have:=En _ _ _ _ h;simp only [length_nil] at this;simp only [getD_some];omega
theorem Gs:∀(k:Nat) (b:Bs) (l r:List Int),l.length≤16→iG k b l=some r→r.length≤16
 | 0,_,_,_,_,h=>by cases h
 |k+1,b,l,r,hl,h=>by
  unfold iG at h
  cases h1:decide (bo b 0>0)<;>rw [h1] at h
  ·injection h with h;exact h▸hl
  ·cases h2:jm b<;>rw [h2] at h
   ·cases h
   ·simp only [cond_true] at h
    split at h
    ·rename_i b' l' he
     exact Gs k b' l' r (yf _ _ _ _ _ hl he) h
    ·cases h
theorem RB (v:Bs):IvWf (mP v):=by
 refine ⟨sV v,rfl,?_⟩
 unfold sV
 cases h:lW v with
 |none=>exact zero_le _
 |some l=>have:=Gs _ _ [] _ (zero_le 16) h;simp only [getD_some];omega
def KG (x:TV):Prop:=x=.val (.slice none 0 0)∨∃l,x=.vec 1 l .none∧IvWf l
theorem UY {a:AtS}(h:KG a.x)(t:Int)(v:Bs):KG (a.put t v).x:=by
 unfold AtS.put
 split
 ·exact h
 split
 ·exact .inr ⟨_,rfl,RB v⟩
 split
 ·exact h
 split
 ·exact h
 ·exact h
theorem Gt:∀(l:List gQ) (f:Nat→Bool) (a:AtS),KG a.x→∀a' f',eS l f a=.inr (a',f')→KG a'.x
 |[],f,a,h,a',f',e=>by injection e with e;injection e with e1 e2;exact e1▸h
 | (fl,t,v)::l,f,a,h,a',f',e=>by
  unfold eS at e
  cases hf:f t.toNat<;>rw [hf] at e
  ·simp only [cond_false] at e
   split at e
   ·exact Gt l _ _ (UY h t v) a' f' e
   ·split at e<;>cases e
  ·cases e
theorem RC (b:Bs):IvWf (fL b):=by
 have key:∀a:AtS,KG a.x→∀l,a.fix.x=.vec 1 l .none→IvWf l:=by
  intro a ha l hl
  unfold AtS.fix at hl
  simp only at hl
  rcases ha with h | ⟨l',h,hw⟩<;>rw [h] at hl<;>simp only at hl
  ·injection hl with _ hl;subst hl;exact .nil
  ·injection hl with _ hl;subst hl;exact hw
 have hx:=Ki b
 unfold nG at hx
 split at hx
 ·rename_i a h
  refine key a ?_ _ hx
  unfold fE at h
  cases ho:ij b<;>rw [ho] at h
  ·cases h
  ·simp only [cond_true] at h
   split at h
   ·cases h
   ·rename_i a' f' he
    have:=Gt _ _ _ (.inl rfl) _ _ he
    unfold oc at h
    cases g1:f' 1<;>cases g2:f' 2<;>cases g3:f' 3<;>simp only [g1,g2,g3,cond_true,cond_false] at h<;>first | (cases h;done) | (injection h with h;exact h▸this)
 ·exact key rq (.inl rfl) _ hx
theorem UZ {b:Bs}(hb:IsB b):UpWf (nQ b):=by
 have hw:PxWf (aK (fw b)):=KF (D6 hb).small
 have hn:PxWf (aK (dE b)):=KF (D7 hb).small
 have hx:IvWf (fL (b7 b)):=RC _
 have e1:UpWf {lu with w:=aK (fw b),n:=aK (dE b)}:=⟨hw,hn,.nil⟩
 have e2:UpWf ⟨aK (fw b),jd (b7 b),fL (b7 b),je (b7 b),jf (b7 b),jg (b7 b),aK (dE b)⟩:=⟨hw,hn,hx⟩
 unfold nQ
 split
 ·rename_i u h
  unfold f9 at h
  split at h
  ·cases h
  cases g1:fQ (fw b)<;>simp only [g1,cond_true,cond_false] at h
  ·cases h
  cases g2:fQ (dE b)<;>simp only [g2,cond_true,cond_false] at h
  ·cases h
  split at h
  ·injection h with h;exact h▸e1
  cases g3:gL (b7 b)<;>simp only [g3,cond_true,cond_false] at h
  ·split at h
   ·cases h
   split at h
   ·injection h with h;exact h▸e1
   ·cases h
  ·split at h
   ·injection h with h;exact h▸e2
   ·injection h with h;exact h▸e1
 ·exact yw
theorem Eo:∀(k:Nat) (b:Bs) (e:Int) (acc l:List (Int × Bs)),IsB b→j8 k b e acc=.ok l→l.length≤acc.length+b.length
 | 0,_,_,_,_,_,h=>by cases h
 |k+1,b,e,acc,l,hb,h=>by
  unfold j8 at h
  by_cases hl:bo b e>0
  ·rw [decide_eq_true hl] at h
   cases h2:decide (jl b e=0)<;>rw [h2] at h
   ·cases h
   ·cases h3:decide (iK b e=2)<;>rw [h3] at h
    ·cases h
    ·cases h4:mn (dA b e) 0<;>rw [h4] at h
     ·cases h
     ·have h5:=Eo k _ _ _ _ (tY hb) h
      have h6:=kw hl
      have h7:=(rg 0 (pf (e:=e) hb)).2.2
      simp only [length_append] at h5
      omega
  ·rw [decide_eq_false hl] at h
   injection h with h;subst h;omega
theorem U0 {b:Bs}(hb:IsB b)(e:Int):CpWf (gj b e):=by
 cases h:nM b e with
 |ok l=>
  rw [(t1 h).2]
  have h2:=Eo _ _ _ _ _ hb h
  have h3:=hb.small
  simp only [length_nil] at h2
  exact ⟨l,rfl,ve _ _ _ _ hb .nil l h,by omega⟩
 |error s=>rw [(mM h).2.1];exact .nil
theorem U1 {b:Bs}(pas:Int)(hb:IsB b):OpWf (ui b pas):=by
 have key:(∃s d,fZ b pas=en s d)∨(∃n h i l,fZ b pas=rh n h i l∧CpWf l):=by
  unfold fZ
  split
  ·exact .inl ⟨_,_,rfl⟩
  split
  ·exact .inl ⟨_,_,rfl⟩
  unfold n9 fJ
  split
  ·exact .inl ⟨_,_,rfl⟩
  split
  ·exact .inl ⟨_,_,rfl⟩
  split
  ·exact .inl ⟨_,_,rfl⟩
  split
  ·exact .inl ⟨_,_,rfl⟩
  split
  ·exact .inl ⟨_,_,rfl⟩
  cases h:eA _ _
  ·exact .inl ⟨_,_,rfl⟩
  ·exact .inr ⟨_,_,_,_,rfl,U0 (aH (aH (aH (aH (aH hb))))) _⟩
 unfold ui sY
 rcases key with ⟨s,d,h⟩ | ⟨n,hh,i,l,h,h2⟩<;>rw [h]
 ·exact yx
 ·exact h2
def nS (b:Bs)(pas:Int):MsgS:=match fh b pas with
 | .inr m=>m
 | .inl _=>m0
def U2 (b:Bs)(pas:Int):Bs:=match fh b pas with
 | .inr _=> []
 | .inl p=>p.2.2
theorem U3 {b:Bs}{pas:Int}(hb:IsB b):MsWf (nS b pas):=by
 have hd:=hb.drop 19
 unfold nS
 split
 ·rename_i m h
  unfold fh at h
  cases h1:cK b<;>rw [h1] at h<;>simp only [cond_true,cond_false] at h
  ·cases h
  split at h
  ·cases h
  split at h
  ·cases h
  split at h
  ·cases h2:gl (b.drop 19) pas<;>rw [h2] at h<;>simp only [cond_true,cond_false] at h
   ·cases h
   ·injection h with h;subst h;exact ⟨U1 pas hd,yw,.nil⟩
  split at h
  ·cases h2:gM (b.drop 19)<;>rw [h2] at h<;>simp only [cond_true,cond_false] at h
   ·cases h
   ·injection h with h;subst h;exact ⟨yx,UZ hd,.nil⟩
  split at h
  ·cases h2:fv (b.drop 19)<;>rw [h2] at h<;>simp only [cond_true,cond_false] at h
   ·cases h
   ·injection h with h;subst h;exact ⟨yx,yw,hd.drop 2⟩
  ·injection h with h;subst h;exact Iy
 ·exact Iy
theorem XS {z:Int}(h0:0≤z)(h1:z<256):IsB [bT z]:=⟨⟨[z],rfl,λy hy=>by obtain rfl:=mem_singleton.1 hy;exact ⟨h0,h1⟩⟩,by simp⟩
theorem RD {b:Bs}(hb:IsB b):IsB (fK b):=by
 have key:∀(l:List gQ) (f':Nat→Bool) (a:AtS),DX l→∀s d,eS l f' a=.inl (s,d)→IsB d:=by
  intro l
  induction l with
  |nil=>intro f' a _ s d e;cases e
  |cons p l ih=>
   obtain ⟨fl,t,v⟩:=p
   intro f' a hl s d e
   unfold eS at e
   obtain ⟨_,_,hv,hvl⟩:=hl _ List.mem_cons_self
   cases hf:f' t.toNat<;>rw [hf] at e
   ·simp only [cond_false] at e
    split at e
    ·exact ih _ _ (λp hp=>hl p (List.mem_cons_of_mem _ hp)) s d e
    ·split at e
     ·injection e with e;injection e with e1 e2;rw [←e2];exact .nil
     ·injection e with e;injection e with e1 e2;rw [←e2];exact ma hv hvl
   ·injection e with e;injection e with e1 e2;rw [←e2];exact .nil
 unfold fK
 split
 ·exact .nil
 ·rename_i e h
  obtain ⟨s,d⟩:=e
  unfold fE at h
  cases ho:ij b<;>rw [ho] at h
  ·injection h with h;injection h with h1 h2;simp only;rw [←h2];exact .nil
  ·simp only [cond_true] at h
   split at h
   ·rename_i e he
    injection h with h;subst h
    exact key _ _ _ (vi hb) s d he
   ·rename_i a f' he
    unfold oc at h
    cases g1:f' 1<;>cases g2:f' 2<;>cases g3:f' 3<;>simp only [g1,g2,g3,cond_true,cond_false] at h<;>first | (cases h;done) | (injection h with h;injection h with e1 e2;simp only;rw [←e2];exact XS (by decide) (by decide))
theorem RE {b:Bs}(hb:IsB b):IsB (ka b):=by
 have hd:=RD (uf hb)
 unfold ka
 split
 ·exact .nil
 ·rename_i e h
  obtain ⟨s,d⟩:=e
  simp only
  unfold f9 at h
  split at h
  ·injection h with h;injection h with _ h;rw [←h];exact .nil
  cases g1:fQ (fw b)<;>simp only [g1,cond_true,cond_false] at h
  ·injection h with h;injection h with _ h;rw [←h];exact .nil
  cases g2:fQ (dE b)<;>simp only [g2,cond_true,cond_false] at h
  ·injection h with h;injection h with _ h;rw [←h];exact .nil
  split at h
  ·cases h
  cases g3:gL (b7 b)<;>simp only [g3,cond_true,cond_false] at h
  ·split at h
   ·injection h with h;injection h with _ h;rw [←h];exact hd
   split at h
   ·cases h
   ·injection h with h;injection h with _ h;rw [←h];exact hd
  ·split at h<;>cases h
theorem RF {b:Bs}(pas:Int):IsB (j9 b pas):=by
 have i2:IsB [bT 0,bT 4]:=⟨⟨[0,4],rfl,λy hy=>by simp at hy;omega⟩,by simp⟩
 have key:(∃s d,fZ b pas=en s d∧IsB d)∨(∃n h i l,fZ b pas=rh n h i l):=by
  unfold fZ
  split
  ·exact .inl ⟨_,_,rfl,.nil⟩
  split
  ·exact .inl ⟨_,_,rfl,i2⟩
  unfold n9 fJ
  split
  ·exact .inl ⟨_,_,rfl,.nil⟩
  split
  ·exact .inl ⟨_,_,rfl,.nil⟩
  split
  ·exact .inl ⟨_,_,rfl,.nil⟩
  split
  ·exact .inl ⟨_,_,rfl,.nil⟩
  split
  ·exact .inl ⟨_,_,rfl,.nil⟩
  cases h:eA _ _
  ·exact .inl ⟨_,_,rfl,.nil⟩
  ·exact .inr ⟨_,_,_,_,rfl⟩
 unfold j9 sY
 rcases key with ⟨s,d,h,h2⟩ | ⟨n,hh,i,l,h⟩<;>rw [h]
 ·exact h2
 ·exact .nil
theorem U4 {b:Bs}{pas:Int}(hb:IsB b):IsB (U2 b pas):=by
 have hd:=hb.drop 19
 have hz:IsB (mc b):=(hb.drop 16).take 2
 unfold U2
 split
 ·exact .nil
 ·rename_i e h
  obtain ⟨c,s,d⟩:=e
  simp only
  unfold fh at h
  cases h1:cK b<;>rw [h1] at h<;>simp only [cond_true,cond_false] at h
  ·injection h with h;injection h with _ h;injection h with _ h;rw [←h];exact yk hb
  split at h
  ·injection h with h;injection h with _ h;injection h with _ h;rw [←h];exact .nil
  split at h
  ·injection h with h;injection h with _ h;injection h with _ h;rw [←h];exact hz
  split at h
  ·cases h2:gl (b.drop 19) pas<;>rw [h2] at h<;>simp only [cond_true,cond_false] at h
   ·injection h with h;injection h with _ h;injection h with _ h;rw [←h];exact RF pas
   ·cases h
  split at h
  ·cases h2:gM (b.drop 19)<;>rw [h2] at h<;>simp only [cond_true,cond_false] at h
   ·injection h with h;injection h with _ h;injection h with _ h;rw [←h];exact RE hd
   ·cases h
  split at h
  ·cases h2:fv (b.drop 19)<;>rw [h2] at h<;>simp only [cond_true,cond_false] at h
   ·injection h with h;injection h with _ h;injection h with _ h;rw [←h];exact hz
   ·cases h
  ·cases h
--bumped 32
def qn:Nat→Bs→Int→List MsgS × Bs × Option (Nat × Int × Bs)
 | 0,w,_=>([],w,none)
 |k+1,w,pas=>if w.length<19 then ([],w,none) else bif cK w then
   (if bA w>w.length then ([],w,none) else match fh (w.take (bA w).toNat) pas with
    | .inl (c,s,d)=>([],[],some (c.toNat-1,s,d))
    | .inr M=>(M::(qn k (w.drop (bA w).toNat) pas).1,(qn k (w.drop (bA w).toNat) pas).2))
  else ([],[],some (0,ga w,fH w))
def aW (w:Bs)(pas:Int):List MsgS × Bs × Option (Nat × Int × Bs):=qn (w.length+1) w pas
theorem Ep:∀(k m:Nat) (w:Bs) (pas:Int),w.length<k→w.length<m→qn k w pas=qn m w pas
 | 0,_,_,_,h,_=>absurd h (not_lt_zero _)
 |_+1,0,_,_,_,h=>absurd h (not_lt_zero _)
 |k+1,m+1,w,pas,h1,h2=>by
  simp only [qn]
  split
  ·rfl
  ·rename_i hl
   cases hh:cK w
   ·rfl
   ·simp only [cond_true]
    split
    ·rfl
    ·have h3:=(sD hl hh).2.1
     have e:qn k (w.drop (bA w).toNat) pas=qn m (w.drop (bA w).toNat) pas:=Ep k m _ _ (by rw [length_drop];omega) (by rw [length_drop];omega)
     rw [e]
theorem cS {w:Bs}(pas:Int)(h:w.length<19):aW w pas=([],w,none):=by
 unfold aW;simp only [qn,if_pos h]
theorem lw {w:Bs}(pas:Int)(h:¬w.length<19)(h1:cK w=false):aW w pas=([],[],some (0,ga w,fH w)):=by
 unfold aW;simp only [qn,if_neg h,h1,cond_false]
theorem k9 {w:Bs}(pas:Int)(h:¬w.length<19)(h1:cK w=true)(h2:bA w>w.length):aW w pas=([],w,none):=by
 unfold aW;simp only [qn,if_neg h,h1,cond_true,if_pos h2]
theorem ly {w:Bs}{pas c s:Int}{d:Bs}(h:¬w.length<19)(h1:cK w=true)(h2:¬bA w>w.length)(h3:fh (w.take (bA w).toNat) pas=.inl (c,s,d)):aW w pas=([],[],some (c.toNat-1,s,d)):=by
 unfold aW;simp only [qn,if_neg h,h1,cond_true,if_neg h2,h3]
theorem mV {w:Bs}{pas:Int}{M:MsgS}(h:¬w.length<19)(h1:cK w=true)(h2:¬bA w>w.length)(h3:fh (w.take (bA w).toNat) pas=.inr M):aW w pas=(M::(aW (w.drop (bA w).toNat) pas).1,(aW (w.drop (bA w).toNat) pas).2):=by
 have h4:=(sD h h1).2.1
 have e:qn w.length (w.drop (bA w).toNat) pas=aW (w.drop (bA w).toNat) pas:=Ep _ _ _ _ (by rw [length_drop];omega) (Nat.lt_succ_self _)
 rw [←e]
 unfold aW
 simp only [qn,if_neg h,h1,cond_true,if_neg h2,h3]
theorem Er {w b:Bs}{n m:Nat}(h:n≤w.length):(w++b).take n=w.take n:=List.take_append_of_le_length h
theorem nH {w b:Bs}{i n:Nat}(h:i+n≤w.length):((w++b).drop i).take n=(w.drop i).take n:=by
 rw [List.drop_append_of_le_length (by omega),List.take_append_of_le_length (by rw [length_drop];omega)]
theorem RG {w:Bs}(b:Bs)(h:¬w.length<19):md (w++b)=md w:=by
 have h2:¬(w++b).length<19:=by rw [length_append];omega
 have e1:cq (w++b)=cq w:=by unfold cq;rw [Er (m:=0) (by omega)]
 have e2:fG (w++b)=fG w:=by unfold fG cQ;rw [nH (by show 16+2≤_;omega)]
 have e3:mc (w++b)=mc w:=by unfold mc;rw [nH (by omega)]
 have e4:yj (w++b)=yj w:=by unfold yj;rw [nH (by omega)]
 have e5:nP (w++b)=nP w:=by
  unfold nP
  congr 1
  rw [List.drop_append_of_le_length (by omega)]
  have:0<(w.drop 18).length:=by rw [length_drop];omega
  cases hc:w.drop 18 with
  |nil=>rw [hc] at this;exact absurd this (not_lt_zero _)
  |cons x l=>rfl
 rw [mR h,mR h2,e1,e2,e3,e4,e5]
theorem Gu (pas:Int)(b:Bs):∀(n:Nat) (w:Bs),w.length≤n→aW (w++b) pas=match (aW w pas).2.2 with
  |none=>((aW w pas).1++(aW ((aW w pas).2.1++b) pas).1,(aW ((aW w pas).2.1++b) pas).2)
  |some _=>aW w pas:=by
 intro n
 induction n with
 |zero=>
  intro w hw
  have hl:w.length<19:=by omega
  rw [cS pas hl];rfl
 |succ n ih=>
  intro w hw
  by_cases hl:w.length<19
  ·rw [cS pas hl];rfl
  have hP:=RG b hl
  have hl2:¬(w++b).length<19:=by rw [length_append];omega
  have a1:cK (w++b)=cK w:=by unfold cK;rw [hP]
  have a2:bA (w++b)=bA w:=by unfold bA;rw [hP]
  have a3:ga (w++b)=ga w:=by unfold ga;rw [hP]
  have a4:fH (w++b)=fH w:=by unfold fH;rw [hP]
  cases h1:cK w
  ·rw [lw pas hl h1,lw pas hl2 (a1.trans h1),a3,a4]
  by_cases h2:bA w>w.length
  ·rw [k9 pas hl h1 h2];rfl
  have h22:¬bA (w++b)>(w++b).length:=by rw [a2,length_append];omega
  have ht:(w++b).take (bA (w++b)).toNat=w.take (bA w).toNat:=by rw [a2,Er (m:=0) (by omega)]
  cases h3:fh (w.take (bA w).toNat) pas with
  |inl p=>
   obtain ⟨c,s,d⟩:=p
   rw [ly hl h1 h2 h3,ly hl2 (a1.trans h1) h22 (ht▸h3)]
  |inr M=>
   have h4:=(sD hl h1).2.1
   have hd:(w++b).drop (bA (w++b)).toNat=w.drop (bA w).toNat++b:=by rw [a2,List.drop_append_of_le_length (by omega)]
   rw [mV hl2 (a1.trans h1) h22 (ht▸h3),hd,mV hl h1 h2 h3]
   have hi:=ih (w.drop (bA w).toNat) (by rw [length_drop];omega)
   rw [hi]
   cases h5:(aW (w.drop (bA w).toNat) pas).2.2<;>rfl
theorem Es {w b:Bs}{pas:Int}(h:(aW w pas).2.2=none):aW (w++b) pas=((aW w pas).1++(aW ((aW w pas).2.1++b) pas).1,(aW ((aW w pas).2.1++b) pas).2):=by
 have:=Gu pas b _ w (le_refl _)
 rw [h] at this;exact this
theorem Et {w b:Bs}{pas:Int}{f:Nat × Int × Bs}(h:(aW w pas).2.2=some f):aW (w++b) pas=aW w pas:=by
 have:=Gu pas b _ w (le_refl _)
 rw [h] at this;exact this
theorem Eu {b:Bs}{pas:Int}{M:MsgS}(hb:IsB b)(h:fh b pas=.inr M):MsWf M:=by
 have:=U3 (pas:=pas) hb
 unfold nS at this;rw [h] at this;exact this
theorem KH {b:Bs}{pas c s:Int}{d:Bs}(hb:IsB b)(h:fh b pas=.inl (c,s,d)):IsB d:=by
 have:=U4 (pas:=pas) hb
 unfold U2 at this;rw [h] at this;exact this
theorem mf (pas:Int):∀(n:Nat) (w:Bs),w.length≤n→IsB w→IsB (aW w pas).2.1∧(aW w pas).1.length+(aW w pas).2.1.length≤w.length∧(∀M∈(aW w pas).1,MsWf M)∧(∀c s d,(aW w pas).2.2=some (c,s,d)→IsB d∧(aW w pas).2.1= []):=by
 intro n
 induction n with
 |zero=>
  intro w hw hb
  rw [cS pas (by omega)]
  exact ⟨hb,by simp,by simp,λ_ _ _ h=>by cases h⟩
 |succ n ih=>
  intro w hw hb
  by_cases hl:w.length<19
  ·rw [cS pas hl]
   exact ⟨hb,by simp,by simp,λ_ _ _ h=>by cases h⟩
  cases h1:cK w
  ·rw [lw pas hl h1]
   exact ⟨.nil,by simp,by simp,λc s d h=>by cases h;exact ⟨yk hb,rfl⟩⟩
  by_cases h2:bA w>w.length
  ·rw [k9 pas hl h1 h2]
   exact ⟨hb,by simp,by simp,λ_ _ _ h=>by cases h⟩
  cases h3:fh (w.take (bA w).toNat) pas with
  |inl p=>
   obtain ⟨c,s,d⟩:=p
   rw [ly hl h1 h2 h3]
   refine ⟨.nil,by simp,by simp,λc' s' d' h=> ?_⟩
   cases h
   exact ⟨KH (hb.take _) h3,rfl⟩
  |inr M=>
   have h4:=(sD hl h1).2.1
   have hi:=ih (w.drop (bA w).toNat) (by rw [length_drop];omega) (hb.drop _)
   rw [mV hl h1 h2 h3]
   refine ⟨hi.1,?_,?_,hi.2.2.2⟩
   ·have:=hi.2.1
    rw [length_drop] at this
    simp only [length_cons];omega
   ·intro m hm
    rcases mem_cons.1 hm with rfl | hm
    ·exact Eu (hb.take _) h3
    ·exact hi.2.2.1 m hm
section
variable {P:Program}{G:aV}
theorem Iz {ro:Nat}{T:VT}{t e tx:TypeId}{d x:Operand}{l:List (Nat × TV)}{inf:TypeInfo}{es:List (List TV)}{id off m:Nat}{cs:List TV}(ht:P.underlying t=some (.slice e))(hi:P.info? e=some inf)(hsl:gk (P.underlying tx)=true)
  (hs:aL G l d=.row inf.size id off m) (ho:T.objs[id]?=some (.row cs)) (hr:cd T inf.size (aL G l x)=some es) (h1:es.length≤m) (h2:off*inf.size+es.flatten.length≤cs.length) (hro:ro≤id):
  br P G ro T (.call ⟨.builtin .copy,#[d,x],#[t,tx]⟩) l (.val (.int .i64 es.length)) {T with objs:=T.objs.set id (.row (ci cs (off*inf.size) es.flatten))}:=by
 refine .mk ?_
 have a1:bu P (.call ⟨.builtin .copy,#[d,x],#[t,tx]⟩) (aL G l)=none:=by simp [bu,eJ]
 have a2:bs P T (.call ⟨.builtin .copy,#[d,x],#[t,tx]⟩) (aL G l)=none:=by simp [bs,dV,jq]
 have a4:tg P ro T t tx (.row inf.size id off m) (aL G l x)=none:=by simp [tg,ht]
 have a3:tf P ro T t tx (.row inf.size id off m) (aL G l x)=some (.val (.int .i64 es.length),{T with objs:=T.objs.set id (.row (ci cs (off*inf.size) es.flatten))}):=by
  unfold tf
  simp only [ht,hi,ho,hr,beq_refl,ble_eq_true_of_le h1,ble_eq_true_of_le h2,ble_eq_true_of_le hro,hsl,Bool.and_self,cond_true]
 simp only [gH,a1,a2,lH,hs,a4,a3]
theorem KI {t e:TypeId}{x i:Operand}{l:List (Nat × TV)}{inf:TypeInfo}{id off n:Nat}{k:IntKind}{z:Int}(ht:P.underlying t=some (.slice e))(hi:P.info? e=some inf)
  (hx:aL G l x=.row inf.size id off n) (hz:aL G l i=.val (.int k z)) (h0:0≤z) (h1:z.toNat≤n):ba P G (.slice t x none (some i) none) l (.row inf.size id off z.toNat):=by
 refine ⟨?_⟩
 have hhi:td n (some (aL G l i))=some z.toNat:=by simp [td,fp,hz,h0]
 have hR:gp P t (aL G l x) none (some (aL G l i)) none=some (.row inf.size id off z.toNat):=by
  rw [hx]
  simp only [gp,ht,hi,fq,hhi,beq_refl,ble_eq_true_of_le h1,ble_eq_true_of_le (zero_le z.toNat),Bool.and_self,cond_true]
 simp [bu,iU,hR]
end
def xL:List MsgS→TV
 |[]=>.val (.slice none 0 0)
 |M::l=>.vec 15 ((M::l).map MsgS.cells) (.tail 0 (M::l).length)
def tL:List MsgS→fR
 |[]=> []
 |M::l=> [((M::l).length,15,true)]
def jh (l:List MsgS):Prop:=∀M∈l,MsWf M
theorem KJ (l:List MsgS):(tL l).length≤1:=by cases l<;>simp [tL]
theorem U5 (l:List MsgS)(M:MsgS):xL (l++ [M])=.vec 15 ((l++ [M]).map MsgS.cells) (.tail 0 (l++ [M]).length):=by cases l<;>rfl
theorem U6 (l:List MsgS)(M:MsgS):tL (l++ [M])= [((l++ [M]).length,15,true)]:=by cases l<;>rfl
theorem gN {l:List MsgS}(h:jh l)(f g:Nat→Option Nat):bm f g (l.map MsgS.cells)=l.map MsgS.cells:=by
 induction l with
 |nil=>rfl
 |cons M l ih=>rw [map_cons,bm,ih (λm hm=>h m (List.mem_cons_of_mem _ hm)),(h M List.mem_cons_self).ren]
theorem Ev {l:List MsgS}(h:jh l)(f:Nat→Option Nat):(xL l).ren f (ax 1)=xL l:=by
 cases l with
 |nil=>rfl
 |cons M l=>simp only [xL,TV.ren,gN h,Tok.ren];rfl
theorem RH (l:List MsgS):(tL l).take 1=tL l:=List.take_of_length_le (KJ l)
theorem Ew:∃(inf:TypeInfo) (z:Value),prog.info? 65=some inf∧inf.size=15∧inf.bytes+1≤1000∧inf.zero=some z∧z.cells.size=15:=
 ⟨(prog.info? 65).getD default,((prog.info? 65).getD default).zero.getD default,by kernel_rfl,by kernel_rfl,le_of_ble_eq_true (by kernel_rfl),by kernel_rfl,by kernel_rfl⟩
theorem U7 (objs:List VO)(l:List MsgS)(M:MsgS)(h:l.length≤64000000):br prog aS 0 ⟨objs,tL l⟩ (.call ⟨.builtin .append,#[.tmp 46,.tmp 48],#[25,25]⟩) [(46,xL l),(48,.vec 15 [M.cells] .full)] (.vec 15 ((l++ [M]).map MsgS.cells) (.tail 0 (l++ [M]).length)) ⟨objs,[((l++ [M]).length,15,true)]⟩:=by
  obtain ⟨inf,z,i1,i2,i3,i4,i5⟩:=Ew
  have h1:=fb (inf:=inf) (P:=prog) (G:=aS) (ro:=0) (T:=⟨objs,tL l⟩) (T1:=⟨objs,[(l.length,15,true)]⟩) (t:=25) (tx:=25) (s:=.tmp 46) (x:=.tmp 48) (l:= [(46,xL l),(48,.vec 15 [M.cells] .full)]) (es:=l.map MsgS.cells) (es2:= [M.cells]) (k:=0) (n:=l.length) (bn:=true) Tryz.underlying25 i1 i4 (by rw [i2];exact i5) (by rw [i2];decide) (by kernel_rfl)
    (by rw [i2];cases l<;>simp [aL,dT,cE,xL,tL]) (by rw [i2];rfl)
    (by have h1:=i3
        have h2:=Nat.mul_le_mul (show (l.map MsgS.cells).length+ [M.cells].length≤64000001 by simp only [length_map,length_cons,length_nil];omega) h1
        omega)
  rw [i2] at h1
  rw [show (l++ [M]).map MsgS.cells=l.map MsgS.cells++ [M.cells] by rw [List.map_append];rfl,show (l++ [M]).length=l.length+ [M.cells].length by simp]
  exact h1
def uu (id k n:Nat):TV:=bif beq k n then .vec 1 [] (.past id (0+k)) else .row 1 id (0+k) (n-k)
theorem KK {G:aV}{x i:Operand}{l:List (Nat × TV)}{id n:Nat}{k:IntKind}{z:Int}(hx:aL G l x=.row 1 id 0 n)(hz:aL G l i=.val (.int k z))(h0:0<z)(h1:z.toNat≤n):ba prog G (.slice 22 x (some i) none none) l (uu id z.toNat n):=by
 obtain ⟨inf,i1,i2,_,_⟩:=dj
 refine ⟨?_⟩
 have hlow:fq (some (aL G l i))=some z.toNat:=by simp [fq,fp,hz,Int.le_of_lt h0]
 have hR:gp prog 22 (aL G l x) (some (aL G l i)) none none=some (uu id z.toNat n):=by
  rw [hx]
  simp only [gp,underlying22,i1,hlow,td,i2]
  obtain ⟨w,hw⟩:∃w,z.toNat=w+1:=⟨z.toNat-1,by omega⟩
  rw [hw] at h1 ⊢
  rw [beq_refl,ble_eq_true_of_le h1,ble_eq_true_of_le (le_refl n)]
  simp only [Bool.and_self,cond_true,uu]
  cases beq (w+1) n<;>rfl
 simp [bu,iU,hR]
theorem NB {T:VT}{ds:List TV}{id k n:Nat}(ho:T.objs[id]?=some (.row ds))(hr:RwOk ds 0 n)(hk:k≤n):cd T 1 (uu id k n)=some (aD ds k (n-k)):=by
 unfold uu
 have h1:=hr.1
 cases hb:beq k n
 ·have h2:ble (k+(n-k)) ds.length=true:=ble_eq_true_of_le (by omega)
  simp only [cond_false,cd,ho,zero_add,beq_refl,h2,Bool.and_self,cond_true,mul_one,aD]
 ·obtain rfl:=Nat.eq_of_beq_eq_true hb
  rw [show aD ds k (k-k)= [] from List.eq_nil_of_length_eq_zero (by rw [iN];omega)]
  simp [cd]
theorem yy {G:aV}{x i:Operand}{l:List (Nat × TV)}{id n:Nat}{k:IntKind}{z:Int}(hx:aL G l x=.row 1 id 0 n)(hz:aL G l i=.val (.int k z))(h0:0≤z)(h1:z.toNat≤n):ba prog G (.slice 22 x none (some i) none) l (.row 1 id 0 z.toNat):=by
 obtain ⟨inf,i1,i2,_,_⟩:=dj
 have h:=KI (P:=prog) (G:=G) (t:=22) (x:=x) (i:=i) (l:=l) (inf:=inf) (id:=id) (off:=0) (n:=n) underlying22 i1 (by rw [i2];exact hx) hz h0 h1
 rw [i2] at h
 exact h
theorem RI {T:VT}{ds:List TV}{k n:Nat}(ho:T.objs[2]?=some (.row ds))(hr:RwOk ds 0 n)(hk:k≤n):br prog aS 0 T (.call ⟨.builtin .copy,#[.tmp 67,.tmp 73],#[22,22]⟩) [(67,.row 1 2 0 n),(73,uu 2 k n)] (.val (.int .i64 ((n-k:Nat):Int))) {T with objs:=T.objs.set 2 (.row (ci ds 0 (aD ds k (n-k)).flatten))}:=by
 obtain ⟨inf,i1,i2,_,_⟩:=dj
 have hs:IsB (aD ds k (n-k)):=(hr.sub (by have:=hr.1;omega)).is
 have h:=Iz (P:=prog) (G:=aS) (ro:=0) (T:=T) (t:=22) (tx:=22) (d:=.tmp 67) (x:=.tmp 73) (l:= [(67,.row 1 2 0 n),(73,uu 2 k n)]) (inf:=inf) (es:=aD ds k (n-k)) (id:=2) (off:=0) (m:=n) (cs:=ds) underlying22 i1 (by kernel_rfl) (by rw [i2];rfl) ho (by rw [i2];exact NB ho hr hk) (by rw [iN];omega) (by rw [i2,El hs,iN];have:=hr.1;omega) (zero_le _)
 rw [iN,i2] at h
 exact h
def iP (w:Bs)(pas:Int):Bool:=(aW w pas).2.2.isNone
def cn (w:Bs)(pas:Int):List MsgS:=(aW w pas).1
def KL (w:Bs)(pas:Int):Nat:=(aW w pas).2.1.length
def mq (w:Bs)(pas:Int):Nat:=match (aW w pas).2.2 with
 |some p=>p.1
 |none=>0
def dv (w:Bs)(pas:Int):Int:=match (aW w pas).2.2 with
 |some p=>p.2.1
 |none=>0
def dn (w:Bs)(pas:Int):Bs:=match (aW w pas).2.2 with
 |some p=>p.2.2
 |none=> []
def Xe (ds:List TV)(lx:TV)(tl:fR)(w:Bs)(pas:Int):Prop:=(RwOk ds 0 (KL w pas)∧aD ds 0 (KL w pas)=(aW w pas).2.1)∧lx=xL (cn w pas)∧tl=tL (cn w pas)
def Xf (ds:List TV)(lx:TV)(tl:fR)(w:Bs)(pas:Int):Prop:=RwOk ds 0 0∧lx=xL (cn w pas)∧tl=tL (cn w pas)
def U8 (n:Int)(N:Nat):Prop:=0≤n∧n+N≤32000000
def Xg (σ:List TV)(ps:Array Tmp)(asg body:Code):Prop:=(pick [2,6] σ= [.ptr 1 0,.ptr 4 0]∧σ.length=57)∧ps= #[34,35]∧asg=eZ∧body=dR
structure O3 where
 ds:List TV
 N:Nat
 l:List MsgS
 n:Int
def yz (pas n0:Int)(w:Bs)(os:List VO)(tl:fR):Prop:=∃ds:List TV,RwOk ds 0 0∧tl=tL (aW w pas).1∧match (aW w pas).2.2 with
 |none=>RwOk ds 0 (aW w pas).2.1.length∧aD ds 0 (aW w pas).2.1.length=(aW w pas).2.1∧os=(pA pas 0 0 (n0+(aW w pas).1.length) (.vec 1 [] .none) (.row 1 2 0 (aW w pas).2.1.length) (xL (aW w pas).1) ds [] .ready none).objs
 |some (c,s,d)=>os=(pA pas (ofNat (c+1)) s (n0+(aW w pas).1.length) (.vec 1 d .none) (.val (.slice none 0 0)) (xL (aW w pas).1) ds [] .done (some (.exit 0))).objs
def Gv:List TV:= [.yld 5,.ptr 4 0]
def KM (pas n0:Int)(w:Bs)(e:Exit)(vs:List TV)(T:VT):Prop:=(e=.normal∨e=.ret)∧vs=Gv∧yz pas n0 w (T.objs.take 6) T.tails
def O4 (pas n0:Int)(w0:Bs)(s:O3):Prop:=RwOk s.ds 0 s.N∧jh s.l∧s.n=n0+s.l.length∧s.l.length+s.N≤w0.length∧aW w0 pas=(s.l++(aW (aD s.ds 0 s.N) pas).1,(aW (aD s.ds 0 s.N) pas).2)
noncomputable def uw (pas:Int)(s:O3):VT:=pA pas 0 0 s.n (.vec 1 [] .none) (.row 1 2 0 s.N) (xL s.l) s.ds (tL s.l) .ready none
def Xh (pas n0:Int)(w0:Bs)(N:Nat)(e:Exit)(vs:List TV)(os:List VO)(tl:fR)(D:List Nat)(m:Nat):Prop:=D= []∧m=84∧vs=Gv∧match e with
 | .normal=>∃s',O4 pas n0 w0 s'∧s'.N<N∧os.map (VO.ren (ax 6) (ax 1))=(uw pas s').objs∧tl.take 1=(uw pas s').tails
 | .exit i=>i=0∧yz pas n0 w0 os tl
 | .ret=>yz pas n0 w0 os tl
 |_=>False
theorem KN {pas:Int}{s:O3}(hr:RwOk s.ds 0 s.N)(ha:jh s.l):(uw pas s).objs.map (VO.ren (ax 6) (ax 1))=(uw pas s).objs:=by
 have e:=hr.ren (ax 6) (ax 1)
 simp only [VO.ren] at e
 injection e with e
 simp only [uw,pA,map_cons,map_nil,fk,VO.ren,aB,Ev ha,e]
 rfl
theorem Ex {b:Bs}{pas:Int}(h:me b pas=true):fh b pas=.inr (nS b pas):=by
 unfold me at h
 unfold nS
 cases e:fh b pas with
 |inl p=>rw [e] at h;cases h
 |inr M=>rfl
theorem RJ {ds0:List TV}{N0:Nat}{pas n0:Int}(hr0:RwOk ds0 0 N0)(hn0:0≤n0)(hn1:n0+N0≤32000000)(K:KX)(hK:∀e vs T,KM pas n0 (aD ds0 0 N0) e vs T→K e (aJ 84 [0,1] vs) T []):
  VWx prog aS none 0 (aA prog iO 0) (aJ 84 [0,1] Gv) (pA pas 0 0 n0 (.vec 1 [] .none) (.row 1 2 0 N0) (.val (.slice none 0 0)) ds0 [] .ready none) [] K:=by
 have hlen0:(aD ds0 0 N0).length=N0:=iN _ _ _
 refine dW (f:=iO) (id:=0) (by kernel_rfl) 84 [0,1] (λs:O3=>s.N) (λ_=>Gv) (uw pas) (O4 pas n0 (aD ds0 0 N0)) 6 1 (λs _=>⟨le_refl _,KJ s.l⟩) (KM pas n0 (aD ds0 0 N0)) (λs hs=> ?_) ⟨ds0,N0,[],n0⟩ ⟨hr0,(λM h=>by cases h),by simp,by simp [hlen0],rfl⟩ K hK
 obtain ⟨ds,N,l,n⟩:=s
 obtain ⟨hr,ha,hn,hlen,hfd⟩:=hs
 simp only at hr ha hn hlen hfd
 have hS:bk prog aS (aI [(sZ,Eh),(Gl,O2)]):=aQ λp hp=>by
  rcases mem_cons.1 hp with rfl | hp;exact KD
  obtain rfl:=mem_singleton.1 hp;exact US
 have hL:∀F2:ki,dD prog aS (Iw 999997 (λ_ _ _ _ _ _=>False,.skip) 1000006 (Iv prog aS aZ F2 250 (ge prog iO 6),ge prog iO 6)):=λF2=>RA (λ_ _ _ _ _ _ h=>h.elim) (λrd ro σ T D K h=>Rz (C:=aZ) (F2:=F2) (n:=250) (c:=ge prog iO 6) ag ac (show bk prog aS aZ from am) rd ro σ T D K h)
 have hw:=hr.is
 have hwl:(aD ds 0 N).length=N:=iN _ _ _
 have hrs:=hr.1
 have h0w:=hr0.2.1
 have h0N:=hr0.1
 rw [hlen0] at hlen
 generalize hW:aD ds 0 N=w at hw hwl hfd
 have hdt:aD ds 0 (bA w).toNat=aD ds 0 (bA w).toNat:=rfl
 have hv:=Wz pas n N (bA w).toNat (N-(bA w).toNat) ((N-(bA w).toNat:Nat):Int) (xL l) (uu 2 (bA w).toNat N) ((l++ [nS (w.take (bA w).toNat) pas]).map MsgS.cells) (.tail 0 (l++ [nS (w.take (bA w).toNat) pas]).length) ds (ci ds 0 (aD ds (bA w).toNat (N-(bA w).toNat)).flatten) (tL l) [((l++ [nS (w.take (bA w).toNat) pas]).length,15,true)] (Xh pas n0 (aD ds0 0 N0) N)
 refine VWx.mono (Q:=λe σ T D=>Xh pas n0 (aD ds0 0 N0) N e (pick [0,1] σ) (T.objs.take 6) T.tails D σ.length) (cg ag ac hS (hL _) hv ?_) (λe σ T D hq=> ?_)
 rotate_left
 ·obtain ⟨h1,h2,h3,h4⟩:=hq
  refine ⟨h1,h2,?_⟩
  cases e
  case normal=>
   obtain ⟨s',a1,a2,a3,a4⟩:=h4
   refine ⟨s',a1,a2,.inr ⟨?_,?_⟩⟩
   ·show (⟨_,_⟩:VT)=_
    rw [a3,a4]
   ·rw [h3];rfl
  case exit i=>
   obtain ⟨rfl,h4⟩:=h4
   exact ⟨.inl rfl,h3,h4⟩
  case ret=>exact ⟨.inr rfl,h3,h4⟩
  all_goals exact h4.elim
 rw [hW]
 have r0:RwOk ds 0 0:=hr.sub (by omega)
 by_cases hl:N<19
 ·have hwL:w.length<19:=by omega
  refine aO (decide_eq_false (by omega)) ⟨rfl,rfl,rfl,rfl,ds,r0,?_,?_⟩
  ·rw [hfd,cS pas hwL];simp
  ·rw [hfd,cS pas hwL]
   simp only [append_nil]
   refine ⟨hwl▸hr,by rw [hwl];exact hW,?_⟩
   rw [hwl,hn];rfl
 have hwL:¬w.length<19:=by omega
 refine aU (decide_eq_true (by omega)) ⟨⟨rfl,hr,ble_eq_true_of_le (by omega),rfl⟩,?_⟩
 refine ak (λh1=> ?_) (λh1=> ?_)
 rotate_left
 ·refine ⟨rfl,rfl,rfl,rfl,ds,r0,?_,?_⟩
  ·rw [hfd,lw pas hwL h1];simp
  ·rw [hfd,lw pas hwL h1]
   simp only [append_nil]
   rw [hn];rfl
 have h19:=sD hwL h1
 refine ak (λh2=> ?_) (λh2=> ?_)
 ·have h3:bA w>w.length:=by have:=of_decide_eq_true h2;omega
  refine ⟨rfl,rfl,rfl,ds,r0,?_,?_⟩
  ·rw [hfd,k9 pas hwL h1 h3];simp
  ·rw [hfd,k9 pas hwL h1 h3]
   simp only [append_nil]
   refine ⟨hwl▸hr,by rw [hwl];exact hW,?_⟩
   rw [hwl,hn];rfl
 have h3:¬bA w>w.length:=by have:=of_decide_eq_false h2;omega
 have hkN:(bA w).toNat≤N:=by omega
 have hsk:aD ds 0 (bA w).toNat=w.take (bA w).toNat:=by rw [←Ro hr hkN,hW]
 have hrk:RwOk ds 0 (bA w).toNat:=hr.sub (by omega)
 refine ⟨yy rfl rfl (by omega) hkN,⟨rfl,hrk,ble_eq_true_of_le (by omega),rfl⟩,?_⟩
 rw [hsk]
 refine ak (λh4=> ?_) (λh4=> ?_)
 ·intro M hM
  have hP:=Ex h4
  obtain rfl:M=nS (w.take (bA w).toNat) pas:=by
   unfold Aa at hM;rw [hP] at hM;exact (Sum.inr.inj hM).symm
  have hst:=mV hwL h1 h3 hP
  obtain ⟨hrn,hsn⟩:=Nz hr hkN
  rw [hW] at hsn
  have hMw:=Eu (hw.take _) hP
  have ha2:jh (l++ [nS (w.take (bA w).toNat) pas]):=λm hm=>by
   rcases mem_append.1 hm with hm | hm
   ·exact ha m hm
   ·obtain rfl:=mem_singleton.1 hm;exact hMw
  refine ⟨rfl,U7 _ l _ (by omega),KK rfl rfl (by omega) hkN,RI rfl hr hkN,?_,?_⟩
  ·have h:=yy (G:=aS) (x:=.tmp 79) (i:=.tmp 80) (l:= [(79,.row 1 2 0 N),(80,.val (.int .i64 ((N-(bA w).toNat:Nat):Int)))]) (id:=2) (n:=N) (k:=.i64) (z:=((N-(bA w).toNat:Nat):Int)) rfl rfl (by omega) (by omega)
   rw [Int.toNat_natCast] at h
   exact h
  ·refine ⟨rfl,rfl,rfl,⟨ci ds 0 (aD ds (bA w).toNat (N-(bA w).toNat)).flatten,N-(bA w).toNat,l++ [nS (w.take (bA w).toNat) pas],n+1⟩,⟨hrn,ha2,?_,?_,?_⟩,by show N-(bA w).toNat<N;omega,?_,?_⟩
   ·simp only [length_append,length_cons,length_nil];omega
   ·simp only [length_append,length_cons,length_nil,hlen0];omega
   ·simp only [hsn]
    rw [hfd,hst]
    simp
   ·rw [bE (by omega) (by omega)]
    have h:=KN (pas:=pas) (s:=⟨ci ds 0 (aD ds (bA w).toNat (N-(bA w).toNat)).flatten,N-(bA w).toNat,l++ [nS (w.take (bA w).toNat) pas],n+1⟩) hrn ha2
    rw [←h]
    simp only [uw,U5]
    rfl
   ·simp only [uw,pA,U6];rfl
 ·intro c s d hB
  refine ⟨rfl,rfl,rfl,rfl,ds,r0,?_,?_⟩
  ·rw [hfd,ly hwL h1 h3 hB];simp
  ·rw [hfd,ly hwL h1 h3 hB]
   simp only [append_nil]
   rw [hn]
   rfl
--bumped 32
def Ac:List TV:= [.dead,.dead,.ptr 1 0,.dead,.dead,.dead,.ptr 4 0]++List.replicate 50 .dead
def KO:be:=λro ys T K=>match T.objs with
 |[.cells [.val (.bool true),.val (.int .i64 pas),.row 1 3 0 N,.val (.int .i64 0),.val (.int .i64 0),.vec 1 [] .none,.val (.int .i64 n)],.cells [.ptr 0 0],o2,.row ds,.cells [.val (.slice none 0 0)],.cells [.ptr 0 0],o6,.loop .ready none σ ps asg body]=>((ro=0∧ys= [.yld 7,.ptr 5 0]∧T.tails= []∧RwOk ds 0 N∧U8 n N)∧Xg σ ps asg body)∧bif iP (aD ds 0 N) pas
  then ∀(ds2:List TV) (lx:TV) (tl:fR),Xe ds2 lx tl (aD ds 0 N) pas→K (.tup []) ⟨[fk pas (.row 1 3 0 (KL (aD ds 0 N) pas)) 0 0 (.vec 1 [] .none) (n+(cn (aD ds 0 N) pas).length),.cells [.ptr 0 0],o2,.row ds2,.cells [lx],.cells [.ptr 0 0],o6,.loop .ready none Ac #[34,35] eZ dR],tl⟩
  else ∀(ds2:List TV) (lx:TV) (tl:fR),Xf ds2 lx tl (aD ds 0 N) pas→K (.tup []) ⟨[fk pas (.val (.slice none 0 0)) (ofNat (mq (aD ds 0 N) pas+1)) (dv (aD ds 0 N) pas) (.vec 1 (dn (aD ds 0 N) pas) .none) (n+(cn (aD ds 0 N) pas).length),.cells [.ptr 0 0],o2,.row ds2,.cells [lx],.cells [.ptr 0 0],o6,.loop .done (some (.exit 0)) Ac #[34,35] eZ dR],tl⟩
 |[.cells [.val (.bool true),.val (.int .i64 pas),.val (.slice none 0 0),.val (.int .i64 0),.val (.int .i64 0),.vec 1 [] .none,.val (.int .i64 n)],.cells [.ptr 0 0],o2,o3,.cells [.ptr 0 0],o5,o6]=>(ro=0∧ys= [.yld 6,.ptr 4 0])∧K (.tup []) T
 |_=>aR 85 default ys
abbrev uy:=10
abbrev yA:=16
abbrev sF:=17
theorem WA (pas:Int)(n:Int)(a b:Bs)(tok:Tok)(Q:TV→VT→Prop):au prog aS (aI [(vT,KE),(iO,KO),(lQ,jE)]) (bc [(999998,.dead,none)]) 300 aG 0 nR [.ptr 0 0,.vec 1 b tok] ⟨[fk pas (.vec 1 a .none) 0 0 (.vec 1 [] .none) n],[]⟩ Q=
 ((IsB (a)∧
 (IsB (b)∧
 (@Eq (Bool) (ble (length a+length b) (32000000:Nat)) true)))∧
 (bif beq (length a+length b) (0:Nat)
 then (((@Eq (Option TV) (.some (.vec 1 (a) .none)) (.some (.vec 1 (a) .none)))∧
 ((@Eq (Option TV) (.some (.ptr 0 0)) (.some (.ptr 0 0)))∧
 ((@Eq (Option TV) (.some (.ptr 0 0)) (.some (.ptr 0 0)))∧
 True)))∧
 (((@Eq (Nat) 0 0)∧
 (@Eq (List TV) [(.yld 6),(.ptr 4 0)] [(.yld 6),(.ptr 4 0)]))∧
 (IsB []∧
 (((@Eq (Option TV) (.some (.ptr 0 0)) (.some (.ptr 0 0)))∧
 ((@Eq (Option TV) (.some (.val (.slice .none 0 0))) (.some (.val (.slice .none 0 0))))∧
 True))∧
 Q (.tup [(.val (.slice .none 0 0)),(.agg [(.val (.int .i64 0)),(.val (.int .i64 0)),(.vec 1 [] .none)])]) ⟨[(.cells [(.val (.bool true)),(.val (.int .i64 (pas))),(.val (.slice .none 0 0)),(.val (.int .i64 0)),(.val (.int .i64 0)),(.vec 1 [] .none),(.val (.int .i64 (n)))]),(.cells [(.ptr 0 0)]),(.cells [(.val (.int .i64 0)),(.val (.int .i64 0)),(.vec 1 [] .none)]),(.cells [(.val (.slice .none 0 0))]),(.cells [(.ptr 0 0)]),.gone,(.loop .exhausted .none [(.ptr 0 0),(.vec 1 (b) (tok)),(.ptr 1 0),(.val (.tuple #[])),(.val (.slice .none 0 0)),(.ptr 2 0),(.ptr 3 0),(.val (.tuple #[])),(.val (.tuple #[])),(.ptr 0 0),(.val (.bool true)),(.val (.bool false)),(.val (.bool false)),(.ptr 0 0),(.ptr 0 0),(.ptr 0 3),(.ptr 0 3),(.val (.int .i64 0)),(.val (.bool false)),(.val (.bool false)),(.val (.tuple #[])),(.val (.tuple #[])),(.ptr 0 0),(.ptr 0 0),(.ptr 0 0),(.ptr 0 2),(.vec 1 (a) .none),(.vec 1 (b) (tok)),(.vec 1 [[(.vec 1 (a) .none)],[(.vec 1 (b) (tok))]] .full),(.val (.slice .none 0 0)),(.ptr 0 0),(.ptr 0 2),(.ptr 0 0),(.fn (.func 64) [] [(.ptr 4 0)]),(.val (.tuple #[])),(.val (.tuple #[])),(.val (.tuple #[])),(.val (.tuple #[])),(.val (.tuple #[])),(.val (.tuple #[])),(.val (.tuple #[])),(.val (.tuple #[])),(.val (.tuple #[])),(.val (.tuple #[])),(.val (.tuple #[])),(.val (.tuple #[])),(.val (.tuple #[])),(.val (.tuple #[])),(.val (.tuple #[])),(.val (.tuple #[])),(.val (.tuple #[])),(.val (.tuple #[])),(.val (.tuple #[])),(.val (.tuple #[])),(.val (.tuple #[])),(.val (.tuple #[])),(.val (.tuple #[]))] #[34,35] eZ dR),(.cells [(.val (.int .i64 0)),(.val (.int .i64 0)),(.vec 1 [] .none)]),(.cells [(.val (.int .i64 0)),(.val (.int .i64 0)),(.vec 1 [] .none)])],[]⟩))))
 else (((@Eq (Option TV) (.some (.vec 1 (a) .none)) (.some (.vec 1 (a) .none)))∧
 ((@Eq (Option TV) (.some (.ptr 0 0)) (.some (.ptr 0 0)))∧
 ((@Eq (Option TV) (.some (.ptr 0 0)) (.some (.ptr 0 0)))∧
 True)))∧
 ((((@Eq (Nat) 0 0)∧
 ((@Eq (List TV) [(.yld 7),(.ptr 5 0)] [(.yld 7),(.ptr 5 0)])∧
 ((@Eq (List (Nat × Nat × Bool)) [] [])∧
 (RwOk (flatten (a++b)) 0 (length a+length b)∧
 U8 (n) (length a+length b)))))∧
 Xg [(.ptr 0 0),(.vec 1 (b) (tok)),(.ptr 1 0),(.val (.tuple #[])),(.val (.slice .none 0 0)),(.ptr 2 0),(.ptr 4 0),(.val (.tuple #[])),(.val (.tuple #[])),(.ptr 0 0),(.val (.bool true)),(.val (.bool false)),(.val (.bool false)),(.ptr 0 0),(.ptr 0 0),(.ptr 0 3),(.ptr 0 3),(.val (.int .i64 0)),(.val (.bool false)),(.val (.bool false)),(.val (.tuple #[])),(.val (.tuple #[])),(.ptr 0 0),(.ptr 0 0),(.ptr 0 0),(.ptr 0 2),(.vec 1 (a) .none),(.vec 1 (b) (tok)),(.vec 1 [[(.vec 1 (a) .none)],[(.vec 1 (b) (tok))]] .full),(.row 1 3 0 (length a+length b)),(.ptr 0 0),(.ptr 0 2),(.ptr 0 0),(.fn (.func 64) [] [(.ptr 5 0)]),(.val (.tuple #[])),(.val (.tuple #[])),(.val (.tuple #[])),(.val (.tuple #[])),(.val (.tuple #[])),(.val (.tuple #[])),(.val (.tuple #[])),(.val (.tuple #[])),(.val (.tuple #[])),(.val (.tuple #[])),(.val (.tuple #[])),(.val (.tuple #[])),(.val (.tuple #[])),(.val (.tuple #[])),(.val (.tuple #[])),(.val (.tuple #[])),(.val (.tuple #[])),(.val (.tuple #[])),(.val (.tuple #[])),(.val (.tuple #[])),(.val (.tuple #[])),(.val (.tuple #[])),(.val (.tuple #[]))] #[34,35] eZ dR)∧
 (bif iP (aD (flatten (a++b)) (0:Nat) (length a+length b)) pas
 then (∀ds2:List TV,(∀lx:TV,(∀tl:fR,(Xe (ds2) (lx) (tl) (aD (flatten (a++b)) (0:Nat) (length a+length b)) (pas)→(IsB []∧
 (((@Eq (Option TV) (.some (.ptr 0 0)) (.some (.ptr 0 0)))∧
 ((@Eq (Option TV) (.some (lx)) (.some (lx)))∧
 True))∧
 Q (.tup [(lx),(.agg [(.val (.int .i64 0)),(.val (.int .i64 0)),(.vec 1 [] .none)])]) ⟨[(.cells [(.val (.bool true)),(.val (.int .i64 (pas))),(.row 1 3 0 (KL (aD (flatten (a++b)) (0:Nat) (length a+length b)) pas)),(.val (.int .i64 0)),(.val (.int .i64 0)),(.vec 1 [] .none),(.val (.int .i64 (n+(↑(length (cn (aD (flatten (a++b)) (0:Nat) (length a+length b)) pas)):Int))))]),(.cells [(.ptr 0 0)]),(.cells [(.val (.int .i64 0)),(.val (.int .i64 0)),(.vec 1 [] .none)]),(.row (ds2)),(.cells [(lx)]),(.cells [(.ptr 0 0)]),.gone,(.loop .exhausted .none [.dead,.dead,(.ptr 1 0),.dead,.dead,.dead,(.ptr 4 0),.dead,.dead,.dead,.dead,.dead,.dead,.dead,.dead,.dead,.dead,.dead,.dead,.dead,.dead,.dead,.dead,.dead,.dead,.dead,.dead,.dead,.dead,.dead,.dead,.dead,.dead,.dead,.dead,.dead,.dead,.dead,.dead,.dead,.dead,.dead,.dead,.dead,.dead,.dead,.dead,.dead,.dead,.dead,.dead,.dead,.dead,.dead,.dead,.dead,.dead] #[34,35] eZ dR),(.cells [(.val (.int .i64 0)),(.val (.int .i64 0)),(.vec 1 [] .none)]),(.cells [(.val (.int .i64 0)),(.val (.int .i64 0)),(.vec 1 [] .none)])],(tl)⟩))))))
 else (∀ds2:List TV,(∀lx:TV,(∀tl:fR,(Xf (ds2) (lx) (tl) (aD (flatten (a++b)) (0:Nat) (length a+length b)) (pas)→(IsB (dn (aD (flatten (a++b)) (0:Nat) (length a+length b)) pas)∧
 (((@Eq (Option TV) (.some (.ptr 0 0)) (.some (.ptr 0 0)))∧
 ((@Eq (Option TV) (.some (lx)) (.some (lx)))∧
 True))∧
 Q (.tup [(lx),(.agg [(.val (.int .i64 (ofNat (mq (aD (flatten (a++b)) (0:Nat) (length a+length b)) pas+(1:Nat))))),(.val (.int .i64 (dv (aD (flatten (a++b)) (0:Nat) (length a+length b)) pas))),(.vec 1 (dn (aD (flatten (a++b)) (0:Nat) (length a+length b)) pas) .none)])]) ⟨[(.cells [(.val (.bool true)),(.val (.int .i64 (pas))),(.val (.slice .none 0 0)),(.val (.int .i64 (ofNat (mq (aD (flatten (a++b)) (0:Nat) (length a+length b)) pas+(1:Nat))))),(.val (.int .i64 (dv (aD (flatten (a++b)) (0:Nat) (length a+length b)) pas))),(.vec 1 (dn (aD (flatten (a++b)) (0:Nat) (length a+length b)) pas) .none),(.val (.int .i64 (n+(↑(length (cn (aD (flatten (a++b)) (0:Nat) (length a+length b)) pas)):Int))))]),(.cells [(.ptr 0 0)]),(.cells [(.val (.int .i64 (ofNat (mq (aD (flatten (a++b)) (0:Nat) (length a+length b)) pas+(1:Nat))))),(.val (.int .i64 (dv (aD (flatten (a++b)) (0:Nat) (length a+length b)) pas))),(.vec 1 (dn (aD (flatten (a++b)) (0:Nat) (length a+length b)) pas) .none)]),(.row (ds2)),(.cells [(lx)]),(.cells [(.ptr 0 0)]),.gone,(.loop .exhausted (.some (Code.exit (0:Nat))) [.dead,.dead,(.ptr 1 0),.dead,.dead,.dead,(.ptr 4 0),.dead,.dead,.dead,.dead,.dead,.dead,.dead,.dead,.dead,.dead,.dead,.dead,.dead,.dead,.dead,.dead,.dead,.dead,.dead,.dead,.dead,.dead,.dead,.dead,.dead,.dead,.dead,.dead,.dead,.dead,.dead,.dead,.dead,.dead,.dead,.dead,.dead,.dead,.dead,.dead,.dead,.dead,.dead,.dead,.dead,.dead,.dead,.dead,.dead,.dead] #[34,35] eZ dR),(.cells [(.val (.int .i64 (ofNat (mq (aD (flatten (a++b)) (0:Nat) (length a+length b)) pas+(1:Nat))))),(.val (.int .i64 (dv (aD (flatten (a++b)) (0:Nat) (length a+length b)) pas))),(.vec 1 (dn (aD (flatten (a++b)) (0:Nat) (length a+length b)) pas) .none)]),(.cells [(.val (.int .i64 (ofNat (mq (aD (flatten (a++b)) (0:Nat) (length a+length b)) pas+(1:Nat))))),(.val (.int .i64 (dv (aD (flatten (a++b)) (0:Nat) (length a+length b)) pas))),(.vec 1 (dn (aD (flatten (a++b)) (0:Nat) (length a+length b)) pas) .none)])],(tl)⟩))))))))))):=by kernel_rfl
theorem U9 (pas s:Int)(c:Nat)(a d:Bs)(n:Int)(b:Bs)(tok:Tok)(Q:TV→VT→Prop):au prog aS (aI [(vT,KE),(iO,KO),(lQ,jE)]) (bc [(999998,.dead,none)]) 300 aG 0 nR [.ptr 0 0,.vec 1 b tok] ⟨[fk pas (.vec 1 a .none) (ofNat (c+1)) s (.vec 1 d .none) n],[]⟩ Q=
 (IsB (d)∧
 Q (.tup [(.val (.slice .none 0 0)),(.agg [(.val (.int .i64 (ofNat (c+(1:Nat))))),(.val (.int .i64 (s))),(.vec 1 (d) .none)])]) ⟨[(.cells [(.val (.bool true)),(.val (.int .i64 (pas))),(.vec 1 (a) .none),(.val (.int .i64 (ofNat (c+(1:Nat))))),(.val (.int .i64 (s))),(.vec 1 (d) .none),(.val (.int .i64 (n)))]),(.cells [(.ptr 0 0)]),(.cells [(.val (.int .i64 (ofNat (c+(1:Nat))))),(.val (.int .i64 (s))),(.vec 1 (d) .none)]),(.cells [(.val (.int .i64 (ofNat (c+(1:Nat))))),(.val (.int .i64 (s))),(.vec 1 (d) .none)]),(.cells [(.val (.int .i64 (ofNat (c+(1:Nat))))),(.val (.int .i64 (s))),(.vec 1 (d) .none)])],[]⟩):=by kernel_rfl
theorem WB (pas n c s:Int)(x:TV)(d:Bs)(Q:TV→VT→Prop):au prog ah (aI [(lQ,jE)]) (bc [(999998,.dead,none)]) 300 aG 0 vU [.ptr 0 0] ⟨[fk pas x c s (.vec 1 d .none) n],[]⟩ Q=
 (IsB (d)∧
 Q (.agg [(.val (.int .i64 (c))),(.val (.int .i64 (s))),(.vec 1 (d) .none)]) ⟨[(.cells [(.val (.bool true)),(.val (.int .i64 (pas))),(x),(.val (.int .i64 (c))),(.val (.int .i64 (s))),(.vec 1 (d) .none),(.val (.int .i64 (n)))]),(.cells [(.val (.int .i64 (c))),(.val (.int .i64 (s))),(.vec 1 (d) .none)]),(.cells [(.val (.int .i64 (c))),(.val (.int .i64 (s))),(.vec 1 (d) .none)])],[]⟩):=by kernel_rfl
theorem Va (pas n:Int)(Q:TV→VT→Prop):au prog ah aZ (bc [(999998,.dead,none)]) 300 aG 0 iO [.dead,.ptr 1 0] ⟨[fk pas (.val (.slice none 0 0)) 0 0 (.vec 1 [] .none) n,.cells [.ptr 0 0]],[]⟩ Q=
Q (.tup []) ⟨[(.cells [(.val (.bool true)),(.val (.int .i64 (pas))),(.val (.slice .none 0 0)),(.val (.int .i64 0)),(.val (.int .i64 0)),(.vec 1 [] .none),(.val (.int .i64 (n)))]),(.cells [(.ptr 0 0)])],[]⟩:=by kernel_rfl
theorem WC (T0:VT)(Po:VT→Prop)(Q:TV→VT→Prop):au prog aS aZ aM 300 (cG [(0,dB 84 [0,1] [] [.yld 5,.ptr 4 0] T0 (λK=>∀T,Po T→(K .normal (aJ 84 [0,1] [.yld 5,.ptr 4 0]) T []∧K .ret (aJ 84 [0,1] [.yld 5,.ptr 4 0]) T [])),aA prog iO 0)]) 0 iO [.yld 5,.ptr 4 0] T0 Q=
 ((aA prog iO (0:Nat)=aA prog iO (0:Nat))∧
 (((@Eq (Option Nat) .none .none)∧
 ((@Eq (Nat) 0 0)∧
 ((@Eq (List Nat) [] [])∧
 (True  ∧
 ((@Eq (VT) (T0) (T0))∧
 ((@Eq (Bool) true true)∧
 (@Eq (List TV) [(.yld 5),(.ptr 4 0)] [(.yld 5),(.ptr 4 0)])))))))∧
 (∀T:VT,(Po (T)→(Q (.tup []) (T)∧
 Q (.tup []) (T)))))):=by kernel_rfl
theorem Vb (pas:Int)(Q:TV→VT→Prop):au prog ah aZ (bc [(999998,.dead,none)]) 300 aG 0 uy [.val (.int .i64 pas)] ⟨[],[]⟩ Q=
Q (.ptr 0 0) ⟨[(.cells [(.val (.bool true)),(.val (.int .i64 (pas))),(.val (.slice .none 0 0)),(.val (.int .i64 0)),(.val (.int .i64 0)),(.val (.slice .none 0 0)),(.val (.int .i64 0))])],[]⟩:=by kernel_rfl
theorem RK (pas n c s:Int)(x d:TV)(a:Bs)(Q:TV→VT→Prop):au prog ah aZ (bc [(999998,.dead,none)]) 300 aG 0 yA [.ptr 0 0] ⟨[fk pas (.vec 1 a .none) c s d n],[]⟩ Q=
Q (.val (.int .i64 ((↑(length a):Int)))) ⟨[(.cells [(.val (.bool true)),(.val (.int .i64 (pas))),(.vec 1 (a) .none),(.val (.int .i64 (c))),(.val (.int .i64 (s))),(d),(.val (.int .i64 (n)))])],[]⟩:=by kernel_rfl
theorem NC (pas n c s:Int)(x d:TV)(Q:TV→VT→Prop):au prog ah aZ (bc [(999998,.dead,none)]) 300 aG 0 sF [.ptr 0 0] ⟨[fk pas x c s d n],[]⟩ Q=
Q (.val (.int .i64 (n))) ⟨[(.cells [(.val (.bool true)),(.val (.int .i64 (pas))),(x),(.val (.int .i64 (c))),(.val (.int .i64 (s))),(d),(.val (.int .i64 (n)))])],[]⟩:=by kernel_rfl
--bumped 32
theorem VCx.loopLe {P:Program}{G:aV}{ro i:Nat}{f:FuncId}{xs:List TV}{T:VT}{Q:TV→VT→Prop}{st:LoopState}{pend:Option Code}{σ:List TV}{m:List (Option TV)}{ps:Array Tmp}{asg body:Code}(hi:T.objs[i]?=some (.loop st pend σ ps asg body))(hle:LEs σ m)(hro:ro≤i)
  (h:VCx P G ro f xs {T with objs:=T.objs.set i (.loop st pend (m9 m) ps asg body)} Q):VCx P G ro f xs T Q:=by
 intro g w us r hG hx
 have r':=r.objLe hi rfl (o':=.loop st pend (m9 m) ps asg body) rfl λb ⟨us,fn,db,h1,h2⟩=>⟨us,fn,db,h1,hle.ok h2⟩
 refine Calls.mono (h g w us r' hG hx) ?_
 rintro e w' ⟨v,x,g',T',he,hq,e',r2,hv,hf⟩
 have hat:∀j,j<ro→(T.objs.set i (.loop st pend (m9 m) ps asg body))[j]?=T.objs[j]?:=λj hj=>by
  rw [getElem?_set,if_neg (by omega)]
 exact ⟨v,x,g',T',he,hq,e',r2,hv,⟨by have:=hf.len;simpa using this,λj hj hl=>(hf.same j hj (by simpa using hl)).trans (hat j hj),λj o b hj ho hl hb=>hf.heap j o b hj ((hat j hj).trans ho) hl hb⟩⟩
section
variable {P:Program}{G:aV}
theorem VCx.cellsLe {f:FuncId}{xs:List TV}{T:VT}{Q:TV→VT→Prop}(i:Nat)(h:VCx P G 0 f xs T λx T'=>∃cs cs':List TV,T'.objs[i]?=some (.cells cs)∧TVleL cs cs'∧Q x {T' with objs:=T'.objs.set i (.cells cs')}):VCx P G 0 f xs T Q:=by
 intro g w us rw0 hG hx
 refine Calls.mono (h g w us rw0 hG hx) ?_
 rintro e w' ⟨v,x,g',T',he,⟨cs,cs',h1,h2,hq⟩,e',r',hv,hfx⟩
 have r2:=r'.objLe h1 rfl (o':=.cells cs') rfl λb ⟨us,t,k1,k2,k3⟩=>⟨us,t,k1,h2.vrs k2,k3⟩
 refine ⟨v,x,g',_,he,hq,e',r2,hv,⟨?_,λi hi=>absurd hi (not_lt_zero i),λi o b hi=>absurd hi (not_lt_zero i)⟩⟩
 have:=hfx.len
 simpa using this
theorem VCx.freezeOpt {f:FuncId}{xs:List TV}{T:VT}{Q:TV→VT→Prop}(i j size:Nat)(h:VCx P G 0 f xs T λx T'=>(∃(id off n:Nat) (cs:List TV) (es:List (List TV)),T'.objs[i]?=some (.cells cs)∧cs[j]?=some (.row size id off n)∧cd T' size (.row size id off n)=some es∧Q x {(T'.kill id) with objs:=(T'.kill id).objs.set i (.cells (cs.set j (.vec size es .none)))})∨Q x T'):VCx P G 0 f xs T Q:=by
 intro g w us rw0 hG hx
 refine Calls.mono (h g w us rw0 hG hx) ?_
 rintro e w' ⟨v,x,g',T',he,hq | hq,e',r',hv,hfx⟩
 rotate_left
 ·exact ⟨v,x,g',T',he,hq,e',r',hv,hfx⟩
 obtain ⟨id,off,n,cs,es,h1,hj,h2,hq⟩:=hq
 obtain ⟨b,h3,⟨vs,t,h4,h5,h6⟩,h7⟩:=r'.obj i _ h1 rfl
 obtain ⟨u,hu,hvu⟩:=h5.at hj
 obtain ⟨g2,e2,r2,v2⟩:=n6 r' h2 hvu
 have hne:id≠i:=by
  rintro rfl
  simp only [cd,h1] at h2
  cases h2
 have hi2:(T'.kill id).objs[i]?=some (.cells cs):=by
  simp only [VT.kill,getElem?_set]
  rw [if_neg hne];exact h1
 have hus:vs.set j u=vs:=by
  apply List.ext_getElem?
  intro k
  rw [getElem?_set]
  split
  ·rename_i hk;subst hk;rw [hu,if_pos (List.getElem?_eq_some_iff.1 hu).1]
  ·rfl
 have hin:∀b',g2.obj i=some b'→b'=b:=λb' hb'=>by
  have:=e2.obj i b h3
  rw [this] at hb';injection hb' with hb';exact hb'.symm
 have r3:RW g2 {(T'.kill id) with objs:=(T'.kill id).objs.set i (.cells (cs.set j (.vec size es .none)))} w':=by
  refine r2.objLeAt hi2 rfl rfl λb' hb' ⟨us',t',k1,k2,k3⟩=>⟨us',t',k1,?_,k3⟩
  rw [hin b' hb',h4] at k1
  injection k1 with k1;injection k1 with k1
  have:us'=vs:=by have:=congrArg Array.toList k1;simpa using this.symm
  subst this
  have:=k2.set j v2
  rwa [hus] at this
 refine ⟨v,x,g2,_,he,hq,e'.trans e2,r3,hv.mono e2,⟨?_,λi hi=>absurd hi (not_lt_zero i),λi o b hi=>absurd hi (not_lt_zero i)⟩⟩
 have:=hfx.len
 simp only [VT.kill,List.length_set];exact this
end
theorem TVleL.app:∀{a b c d:List TV},TVleL a b→TVleL c d→TVleL (a++c) (b++d)
 |[],[],_,_,_,h=>h
 |_::_,_::_,_,_,h,k=>⟨h.1,TVleL.app h.2 k⟩
 |[],_::_,_,_,h,_=>h.elim
 |_::_,[],_,_,h,_=>h.elim
theorem TVleL.flat {α:Type}(f g:α→List TV):∀{l:List α},(∀a∈l,TVleL (f a) (g a))→TVleL (l.map f).flatten (l.map g).flatten
 |[],_=>trivial
 |a::l,h=>by
  rw [map_cons,map_cons,flatten_cons,flatten_cons]
  exact (h a List.mem_cons_self).app (TVleL.flat f g λb hb=>h b (List.mem_cons_of_mem _ hb))
theorem TVle.rows {α:Type}(size:Nat)(f g:α→List TV){l:List α}(tok:Tok)(h:∀a∈l,TVleL (f a) (g a)):TVle (.vec size (l.map f) tok) (.vec size (l.map g) .none):=by
 intro q w u hu
 rcases hu.vec_inv with ⟨rfl,h0,h1⟩ | ⟨b,o,c,us,rfl,f1,f2,f3,f4,f5,f6,f7,f8⟩ | ⟨a,rfl,h0,h1⟩
 ·obtain rfl:l= []:=List.map_eq_nil_iff.1 h0
  exact .nil trivial
 ·have hf:=TVleL.flat f g h
  refine .mk_vec (by simp) (by simpa using f1) f2 (λe he=> ?_) trivial (hf.vrs f5) (λj hj=>f6 j (by rw [hf.at.1];exact hj)) f7 f8
  obtain ⟨a,ha,rfl⟩:=mem_map.1 he
  rw [←(h a ha).at.1]
  exact f3 _ (mem_map.2 ⟨a,ha,rfl⟩)
 ·obtain rfl:l= []:=List.map_eq_nil_iff.1 h0
  exact .odd a trivial
def ND (pas n:Int)(w:Bs)(x:TV)(T:VT):Prop:=x=.tup []∧yz pas n w T.objs T.tails
theorem RL {l:List MsgS}(h:jh l)(f g:Nat→Option Nat)(hg:g 0=some 0):(xL l).ren f g=xL l:=by
 cases l with
 |nil=>rfl
 |cons M l=>simp only [xL,TV.ren,gN h,Tok.ren,hg]
theorem yB {cs:List TV}{n:Nat}(h:RwOk cs 0 n)(f g:Nat→Option Nat):aB f g cs=cs:=by
 have e:=h.ren f g
 simp only [VO.ren] at e
 injection e
theorem rB {w:Bs}{pas:Int}(hw:IsB w):jh (aW w pas).1:=(mf pas _ w (le_refl _) hw).2.2.1
theorem rC {w:Bs}{pas:Int}(hw:IsB w){c:Nat}{s:Int}{d:Bs}(h:(aW w pas).2.2=some (c,s,d)):IsB d:=((mf pas _ w (le_refl _) hw).2.2.2 c s d h).1
theorem Vc {ds:List TV}{N:Nat}{pas n:Int}(hr:RwOk ds 0 N)(hn:U8 n N):
  VCx prog aS 0 iO Gv (pA pas 0 0 n (.vec 1 [] .none) (.row 1 2 0 N) (.val (.slice none 0 0)) ds [] .ready none) (ND pas n (aD ds 0 N)):=by
 have hw:=hr.is
 refine VCx.keepQ 6 1 (le_refl _) (zero_le _) ?_
 refine aj ag ac (show bk prog aS aZ from am) (bL λp hp=> ?_) (WC _ (λT=>yz pas n (aD ds 0 N) (T.objs.take 6) T.tails) _) ?_
 ·obtain rfl:=mem_singleton.1 hp
  refine ce λK hK=>RJ hr hn.1 hn.2 K ?_
  rintro e vs T ⟨he,rfl,hT⟩
  obtain ⟨h1,h2⟩:=hK T hT
  rcases he with rfl | rfl
  ·exact h1
  ·exact h2
 ·refine ⟨rfl,⟨rfl,rfl,rfl,trivial,rfl,rfl,rfl⟩,λT hT=> ?_⟩
  have key:ND pas n (aD ds 0 N) ((TV.tup []).ren (ax 6) (ax 1)) (T.keep 6 1):=by
   refine ⟨rfl,?_⟩
   obtain ⟨ds2,h0,h1,h2⟩:=hT
   have ha:=rB (pas:=pas) hw
   refine ⟨ds2,h0,?_,?_⟩
   ·show T.tails.take 1=_
    rw [h1,RH]
   ·cases hf:(aW (aD ds 0 N) pas).2.2 with
    |none=>
     rw [hf] at h2
     obtain ⟨a1,a2,a3⟩:=h2
     refine ⟨a1,a2,?_⟩
     show (T.objs.take 6).map _=_
     rw [a3]
     have e:=yB h0 (ax 6) (ax 1)
     simp only [pA,map_cons,map_nil,fk,VO.ren,aB,Ev ha,e]
     rfl
    |some p=>
     obtain ⟨c,s,d⟩:=p
     rw [hf] at h2
     show (T.objs.take 6).map _=_
     simp only at h2
     rw [h2]
     have e:=yB h0 (ax 6) (ax 1)
     have e2:=(rC hw hf).ren (ax 6) (ax 1)
     simp only [pA,map_cons,map_nil,fk,VO.ren,aB,Ev ha,e,TV.ren,e2]
     rfl
  exact ⟨key,key⟩
theorem RM (pas n:Int):VCx prog ah 0 iO [.dead,.ptr 1 0] ⟨[fk pas (.val (.slice none 0 0)) 0 0 (.vec 1 [] .none) n,.cells [.ptr 0 0]],[]⟩ λx T'=>x=.tup []∧T'=⟨[fk pas (.val (.slice none 0 0)) 0 0 (.vec 1 [] .none) n,.cells [.ptr 0 0]],[]⟩:=
 aj ag ac am ai (Va pas n _) ⟨rfl,rfl⟩
def pB:List Nat:= [0,1,3,4,5,7]
theorem Vd:∀ro ys T K,KO ro ys T K→VCx prog aS ro iO ys T K:=by
 intro ro ys T K hw
 obtain ⟨objs,tails⟩:=T
 unfold KO at hw
 split at hw
 ·rename_i pas N n o2 ds o6 σ ps asg body heq
  simp only at heq
  subst heq
  obtain ⟨⟨⟨rfl,rfl,ht,hr,hn⟩,⟨hp,hl⟩,rfl,rfl,rfl⟩,hk⟩:=hw
  simp only at ht
  subst ht
  have hw:=hr.is
  have hle:LEs σ (nq 57 [2,6] [.ptr 1 0,.ptr 4 0]):=by
   have:=oS σ [2,6]
   rwa [hl,hp] at this
  have hrr:=λf g=>yB (hr.sub (o:=0) (m:=0) (by omega)) f g
  refine VCx.loopLe (i:=7) rfl hle (zero_le _) ?_
  refine (VCx.lift (xs:=Gv) pB [] bH (by decide) nodup_nil ?_ (by simp) (λ_ _=>zero_le _) rfl (T:=⟨[fk pas (.row 1 3 0 N) 0 0 (.vec 1 [] .none) n,.cells [.ptr 0 0],o2,.row ds,.cells [.val (.slice none 0 0)],.cells [.ptr 0 0],o6,.loop .ready none Ac #[34,35] eZ dR],[]⟩) (Q:=ND pas n (aD ds 0 N)) ?_ ?_).mono ?_
  ·intro i hi
   simp only [pB,mem_cons,not_mem_nil,or_false] at hi
   rcases hi with rfl | rfl | rfl | rfl | rfl | rfl<;>exact ⟨_,rfl,rfl⟩
  ·have e:(⟨[fk pas (.row 1 3 0 N) 0 0 (.vec 1 [] .none) n,.cells [.ptr 0 0],o2,.row ds,.cells [.val (.slice none 0 0)],.cells [.ptr 0 0],o6,.loop .ready none Ac #[34,35] eZ dR],[]⟩:VT).give pB []=pA pas 0 0 n (.vec 1 [] .none) (.row 1 2 0 N) (.val (.slice none 0 0)) ds [] .ready none:=by
    have e2:=hrr (bb pB) (bb [])
    simp only [VT.give,pB,map_cons,map_nil] at e2 ⊢
    show (⟨[_,_,VO.row (aB _ _ ds),_,_,_],[]⟩:VT)=_
    rw [e2]
    rfl
   rw [e];exact Vc hr hn
  ·rintro x T' ⟨_,ds2,_,_,h⟩
   refine ⟨?_,zero_le _⟩
   split at h
   ·obtain ⟨_,_,h⟩:=h
    rw [h];exact le_refl _
   ·rw [h];exact le_refl _
  ·rintro z T' ⟨x,T'',⟨rfl,ds2,h0,h1,h2⟩,rfl,rfl⟩
   have ha:=rB (pas:=pas) hw
   have e:=yB h0 (bd 8 pB) (bd 0 [])
   have ex:∀f,(xL (aW (aD ds 0 N) pas).1).ren f (bd 0 [])=xL (aW (aD ds 0 N) pas).1:=λf=>RL ha f _ rfl
   obtain ⟨os,tls⟩:=T''
   simp only at h1 h2
   subst h1
   cases hf:(aW (aD ds 0 N) pas).2.2 with
   |none=>
    rw [hf] at h2
    obtain ⟨a1,a2,rfl⟩:=h2
    rw [show iP (aD ds 0 N) pas=true by unfold iP;rw [hf];rfl,cond_true] at hk
    have hk:=hk ds2 _ _ ⟨⟨a1,a2⟩,rfl,rfl⟩
    have e1:(pA pas 0 0 (n+(aW (aD ds 0 N) pas).1.length) (.vec 1 [] .none) (.row 1 2 0 (aW (aD ds 0 N) pas).2.1.length) (xL (aW (aD ds 0 N) pas).1) ds2 [] .ready none).objs.map (VO.ren (bd 8 pB) (bd 0 []))= [fk pas (.row 1 3 0 (aW (aD ds 0 N) pas).2.1.length) 0 0 (.vec 1 [] .none) (n+(aW (aD ds 0 N) pas).1.length),.cells [.ptr 0 0],.row ds2,.cells [xL (aW (aD ds 0 N) pas).1],.cells [.ptr 0 0],.loop .ready none Ac #[34,35] eZ dR]:=by
     show [_,_,VO.row (aB _ _ ds2),VO.cells [(xL _).ren _ _],_,_]=_
     rw [e,ex];rfl
    change K (.tup []) ⟨cu _ pB ((pA pas 0 0 (n+(aW (aD ds 0 N) pas).1.length) (.vec 1 [] .none) (.row 1 2 0 (aW (aD ds 0 N) pas).2.1.length) (xL (aW (aD ds 0 N) pas).1) ds2 [] .ready none).objs.map (VO.ren (bd 8 pB) (bd 0 []))),_⟩
    rw [e1]
    simp only [cu,pB,List.set_cons_zero,List.set_cons_succ,append_nil,nil_append]
    exact hk
   |some p=>
    obtain ⟨c,s,d⟩:=p
    rw [hf] at h2
    simp only at h2
    subst h2
    rw [show iP (aD ds 0 N) pas=false by unfold iP;rw [hf];rfl,cond_false] at hk
    have hk:=hk ds2 _ _ ⟨h0,rfl,rfl⟩
    have ec:mq (aD ds 0 N) pas=c:=by unfold mq;rw [hf]
    have es:dv (aD ds 0 N) pas=s:=by unfold dv;rw [hf]
    have ed:dn (aD ds 0 N) pas=d:=by unfold dn;rw [hf]
    rw [ec,es,ed] at hk
    have e2:=(rC hw hf).ren (bd 8 pB) (bd 0 [])
    have e1:(pA pas (ofNat (c+1)) s (n+(aW (aD ds 0 N) pas).1.length) (.vec 1 d .none) (.val (.slice none 0 0)) (xL (aW (aD ds 0 N) pas).1) ds2 [] .done (some (.exit 0))).objs.map (VO.ren (bd 8 pB) (bd 0 []))= [fk pas (.val (.slice none 0 0)) (ofNat (c+1)) s (.vec 1 d .none) (n+(aW (aD ds 0 N) pas).1.length),.cells [.ptr 0 0],.row ds2,.cells [xL (aW (aD ds 0 N) pas).1],.cells [.ptr 0 0],.loop .done (some (.exit 0)) Ac #[34,35] eZ dR]:=by
     show [VO.cells [_,_,_,_,_,.vec 1 (bm _ _ d) _,_],_,VO.row (aB _ _ ds2),VO.cells [(xL _).ren _ _],_,_]=_
     rw [e,ex,e2];rfl
    change K (.tup []) ⟨cu _ pB ((pA pas (ofNat (c+1)) s (n+(aW (aD ds 0 N) pas).1.length) (.vec 1 d .none) (.val (.slice none 0 0)) (xL (aW (aD ds 0 N) pas).1) ds2 [] .done (some (.exit 0))).objs.map (VO.ren (bd 8 pB) (bd 0 []))),_⟩
    rw [e1]
    simp only [cu,pB,List.set_cons_zero,List.set_cons_succ,append_nil,nil_append]
    exact hk
 ·rename_i pas n o2 o3 o5 o6 heq
  simp only at heq
  subst heq
  obtain ⟨⟨rfl,rfl⟩,hk⟩:=hw
  refine (VCx.lift (xs:= [.dead,.ptr 1 0]) [0,4] [] bH (by decide) nodup_nil ?_ (by simp) (λ_ _=>zero_le _) rfl (Q:=λx T'=>x=.tup []∧T'=⟨[fk pas (.val (.slice none 0 0)) 0 0 (.vec 1 [] .none) n,.cells [.ptr 0 0]],[]⟩) (VCx.anyG (RM pas n)) ?_).mono ?_
  ·intro i hi
   simp only [mem_cons,not_mem_nil,or_false] at hi
   rcases hi with rfl | rfl<;>exact ⟨_,rfl,rfl⟩
  ·rintro x T' ⟨_,rfl⟩
   exact ⟨le_refl _,zero_le _⟩
  ·rintro z T' ⟨x,T'',⟨rfl,rfl⟩,rfl,rfl⟩
   simp only [VT.back,map_cons,map_nil,cu,append_nil]
   exact hk
 ·exact hw.elim
def ep (w:Bs)(pas:Int):Int:=bif iP w pas then 0 else ofNat (mq w pas+1)
def cT (pas:Int)(w:Bs):VO:=fk pas (.vec 1 (aW w pas).2.1 .none) (ep w pas) (dv w pas) (.vec 1 (dn w pas) .none) ((cn w pas).length:Nat)
def vV (pas:Int)(w:Bs):List TV:= [.val (.bool true),.val (.int .i64 pas),.vec 1 (aW w pas).2.1 .none,.val (.int .i64 (ep w pas)),.val (.int .i64 (dv w pas)),.vec 1 (dn w pas) .none,.val (.int .i64 ((cn w pas).length:Nat))]
def vW (w:Bs)(pas:Int):TV:=cD (ep w pas) (dv w pas) (dn w pas)
def gm (w b:Bs)(pas:Int):List MsgS:=(cn (w++b) pas).drop (cn w pas).length
def rD (w b:Bs)(pas:Int):TV:=.tup [.vec 15 ((gm w b pas).map MsgS.cells) .none,vW (w++b) pas]
section
variable {w b:Bs}{pas:Int}
theorem jH (hw:IsB w):IsB (dn w pas):=by
 unfold dn
 split
 ·rename_i p h
  obtain ⟨c,s,d⟩:=p
  exact rC hw h
 ·exact .nil
theorem jI (hw:IsB w):IsB (aW w pas).2.1:=(mf pas _ w (le_refl _) hw).1
theorem pD (h:(aW w pas).2.2=none):cT pas w=fk pas (.vec 1 (aW w pas).2.1 .none) 0 0 (.vec 1 [] .none) ((aW w pas).1.length:Nat):=by
 simp only [cT,ep,iP,dv,dn,cn,h];rfl
theorem sG (hw:IsB w){c:Nat}{s:Int}{d:Bs}(h:(aW w pas).2.2=some (c,s,d)):cT pas w=fk pas (.vec 1 [] .none) (ofNat (c+1)) s (.vec 1 d .none) ((aW w pas).1.length:Nat):=by
 have h2:=((mf pas _ w (le_refl _) hw).2.2.2 c s d h).2
 simp only [cT,ep,iP,mq,dv,dn,cn,h,h2];rfl
theorem Ey (h:(aW w pas).2.2=none):vW w pas=cD 0 0 []:=by simp only [vW,ep,iP,dv,dn,h];rfl
theorem wK {c:Nat}{s:Int}{d:Bs}(h:(aW w pas).2.2=some (c,s,d)):vW w pas=cD (ofNat (c+1)) s d:=by simp only [vW,ep,iP,mq,dv,dn,h];rfl
theorem ew (hw:IsB w)(f g:Nat→Option Nat):(cT pas w).ren f g=cT pas w:=by
 simp only [cT,fk,VO.ren,aB,TV.ren,(jH hw).ren,(jI hw).ren,Tok.ren]
theorem Ad (hw:IsB w)(f g:Nat→Option Nat):(vW w pas).ren f g=vW w pas:=by
 simp only [vW,cD,TV.ren,aB,(jH hw).ren,Tok.ren]
theorem Ae (hw:IsB (w++b)):jh (gm w b pas):=λM hM=>rB hw M (List.mem_of_mem_drop hM)
theorem Gw (hw:IsB (w++b))(f g:Nat→Option Nat):(rD w b pas).ren f g=rD w b pas:=by
 simp only [rD,TV.ren,aB,gN (Ae hw),Ad hw,Tok.ren]
theorem O5 {l:List MsgS}(h:jh l)(f:Nat→Option Nat):TVle ((xL l).ren f (ax 0)) (.vec 15 (l.map MsgS.cells) .none):=by
 cases l with
 |nil=>exact .nil 15
 |cons M l=>simp only [xL,TV.ren,gN h,Tok.ren];exact .refl _
theorem pE (h:IsB (w++b)):IsB w:=by
 have:=h.take w.length
 rwa [List.take_left] at this
theorem qo (h:IsB (w++b)):IsB b:=by
 have:=h.drop w.length
 rwa [List.drop_left] at this
theorem Ve:bk prog aS (aI [(vT,KE),(iO,KO),(lQ,jE)]):=aQ λp hp=>by
 rcases mem_cons.1 hp with rfl | hp;exact UT
 rcases mem_cons.1 hp with rfl | hp;exact Vd
 obtain rfl:=mem_singleton.1 hp;exact λro ys T K h=>VCx.anyG (lp ro ys T K h)
theorem Vf {V:TV}{S:List TV}{ys:List TV}{T0:VT}(h0:T0.objs.length≤1)(ht:T0.tails.length≤0)(hV:∀f g,aB f g S=S)
  (h:VCx prog aS 0 nR ys T0 λx T'=>(∃(id off n:Nat) (cs:List TV) (es:Bs),T'.objs[0]?=some (.cells cs)∧cs[2]?=some (.row 1 id off n)∧cd T' 1 (.row 1 id off n)=some es∧(0<id∧cs.set 2 (.vec 1 es .none)=S)∧TVle (x.ren (ax 1) (ax 0)) V)∨(∃cs,T'.objs[0]?=some (.cells cs)∧TVleL cs S∧TVle (x.ren (ax 1) (ax 0)) V)):
  VCx prog aS 0 nR ys T0 λx T'=>x=V∧T'=⟨[.cells S],[]⟩:=by
 refine VCx.toLe (Q:=λT'=>T'=⟨[.cells S],[]⟩) (VCx.keepQ 1 0 h0 ht (VCx.cellsLe 0 (VCx.freezeOpt 0 2 1 (h.mono ?_))))
 have fin:∀T':VT,T'.objs[0]?=some (.cells S)→T'.keep 1 0=⟨[.cells S],[]⟩:=λT' h=>by
  obtain ⟨objs,tails⟩:=T'
  cases objs with
  |nil=>simp at h
  |cons o os=>
   simp only [List.getElem?_cons_zero] at h
   injection h with h
   subst h
   simp only [VT.keep,List.take_succ_cons,List.take_zero,map_cons,map_nil,VO.ren,hV]
 have set0:∀(l:List VO) (o:VO),0<l.length→(l.set 0 o)[0]?=some o:=λl o h=>by
  cases l with
  |nil=>simp at h
  |cons _ _=>rfl
 rintro x T' (⟨id,off,n,cs,es,a1,a2,a3,⟨a4,a5⟩,a6⟩ | ⟨cs,a1,a2,a3⟩)
 ·have hl:0<T'.objs.length:=(List.getElem?_eq_some_iff.1 a1).1
  refine .inl ⟨id,off,n,cs,es,a1,a2,a3,S,S,?_,TVleL.refl _,a6,fin _ ?_⟩
  ·rw [a5];exact set0 _ _ (by simpa [VT.kill] using hl)
  ·exact set0 _ _ (by simpa [VT.kill] using hl)
 ·have hl:0<T'.objs.length:=(List.getElem?_eq_some_iff.1 a1).1
  exact .inr ⟨cs,S,a1,a2,a3,fin _ (set0 _ _ hl)⟩
theorem Vg (hw:IsB (w++b))(tok:Tok):VCx prog aS 0 nR [.ptr 0 0,.vec 1 b tok] ⟨[cT pas w],[]⟩ λx T'=>x=rD w b pas∧T'=⟨[cT pas (w++b)],[]⟩:=by
 have hw1:=pE hw
 have hb:=qo hw
 have hS:∀f g,aB f g (vV pas (w++b))=vV pas (w++b):=λf g=>by
  simp only [vV,aB,TV.ren,(jH hw).ren,(jI hw).ren,Tok.ren]
 refine Vf (S:=vV pas (w++b)) (le_refl _) (le_refl _) hS ?_
 cases hf:(aW w pas).2.2 with
 |some p=>
  obtain ⟨c,s,d⟩:=p
  have hd:=rC hw1 hf
  have hx:=Et (b:=b) hf
  have hf2:(aW (w++b) pas).2.2=some (c,s,d):=by rw [hx];exact hf
  have hS2:=sG hw hf2
  unfold fk at hS2
  change VO.cells (vV pas (w++b))=_ at hS2
  injection hS2 with hS2
  rw [sG hw1 hf,hS2]
  refine aj ag ac Ve ai (U9 pas s c [] d _ b tok _) ⟨hd,.inr ⟨_,rfl,?_,?_⟩⟩
  ·rw [hx]
   exact TVleL.refl _
  ·unfold rD
   rw [wK hf2]
   have e:gm w b pas= []:=by unfold gm cn;rw [hx];simp
   rw [e]
   refine .tup ⟨.nil 15,?_,trivial⟩
   simp only [TV.ren,aB,hd.ren,Tok.ren]
   exact .refl _
 |none=>
  have hx:=Es (b:=b) hf
  have hlen:=(mf pas _ w (le_refl _) hw1).2.1
  have hr:=jI (pas:=pas) hw1
  rw [pD hf]
  have hsm:=hw.small
  rw [length_append] at hsm
  refine aj ag ac Ve ai (WA pas _ (aW w pas).2.1 b tok _) ⟨⟨hr,hb,ble_eq_true_of_le (by omega)⟩,?_⟩
  have hab:IsB ((aW w pas).2.1++b):=IsB.append hr hb (by rw [length_append];omega)
  have hfl:=zZ hab
  rw [length_append] at hfl
  rw [hfl.2]
  have e1:gm w b pas=(aW ((aW w pas).2.1++b) pas).1:=by unfold gm cn;rw [hx];simp
  have e2:cn (w++b) pas=(aW w pas).1++(aW ((aW w pas).2.1++b) pas).1:=by unfold cn;rw [hx]
  refine ak (λc0=> ?_) (λc0=> ?_)
  ·have c0:=Nat.eq_of_beq_eq_true c0
   have er:(aW w pas).2.1= []:=List.eq_nil_of_length_eq_zero (by omega)
   have eb:b= []:=List.eq_nil_of_length_eq_zero (by omega)
   subst eb
   rw [er] at hx e1 e2
   have e0:aW ([]:Bs) pas=([],[],none):=cS pas (by simp)
   rw [append_nil,e0] at e1
   rw [append_nil,append_nil,e0,append_nil] at e2
   have hS2:=pD hf
   unfold fk at hS2
   change VO.cells (vV pas _)=_ at hS2
   injection hS2 with hS2
   refine ⟨⟨rfl,rfl,rfl,trivial⟩,⟨rfl,rfl⟩,.nil,⟨rfl,rfl,trivial⟩,.inr ⟨_,rfl,?_,?_⟩⟩
   ·rw [append_nil,hS2,er]
    exact ⟨.refl _,.refl _,.nil 1,.refl _,.refl _,.refl _,.refl _,trivial⟩
   ·unfold rD
    rw [e1,append_nil,Ey hf]
    exact .tup ⟨.nil 15,.refl _,trivial⟩
  ·refine ⟨⟨rfl,rfl,rfl,trivial⟩,⟨⟨rfl,rfl,rfl,hfl.1,by omega,by omega⟩,⟨rfl,rfl⟩,rfl,rfl,rfl⟩,ak (λc1=> ?_) (λc1=> ?_)⟩
   ·rintro ds2 lx tl ⟨⟨h1,h2⟩,rfl,rfl⟩
    have hn2:(aW ((aW w pas).2.1++b) pas).2.2=none:=by
     unfold iP at c1
     cases h:(aW ((aW w pas).2.1++b) pas).2.2 with
     |none=>rfl
     |some p=>rw [h] at c1;cases c1
    have hn3:(aW (w++b) pas).2.2=none:=by rw [hx];exact hn2
    have hS2:=pD hn3
    unfold fk at hS2
    change VO.cells (vV pas _)=_ at hS2
    injection hS2 with hS2
    refine ⟨.nil,⟨rfl,rfl,trivial⟩,.inl ⟨3,0,_,_,(aW (w++b) pas).2.1,rfl,rfl,?_,⟨by decide,?_⟩,?_⟩⟩
    ·rw [show (aW (w++b) pas).2.1=(aW ((aW w pas).2.1++b) pas).2.1 by rw [hx],←h2]
     have q:=h1.1
     have q2:ble (0+KL ((aW w pas).2.1++b) pas) ds2.length=true:=ble_eq_true_of_le q
     simp only [cd,List.getElem?_cons_zero,List.getElem?_cons_succ,beq_refl,q2,Bool.and_self,cond_true,zero_mul,mul_one,aD]
    ·rw [hS2]
     have:(((aW w pas).1.length:Nat):Int)+((cn ((aW w pas).2.1++b) pas).length:Nat)=(((aW (w++b) pas).1.length:Nat):Int):=by
      rw [hx];simp only [length_append,cn];omega
     simp only [List.set_cons_zero,List.set_cons_succ,this]
    ·unfold rD
     rw [e1,Ey hn3]
     exact .tup ⟨O5 (rB hab) _,.refl _,trivial⟩
   ·rintro ds2 lx tl ⟨h1,rfl,rfl⟩
    obtain ⟨c,s,d,hn2⟩:∃(c:Nat) (s:Int) (d:Bs),(aW ((aW w pas).2.1++b) pas).2.2=some (c,s,d):=by
     unfold iP at c1
     cases h:(aW ((aW w pas).2.1++b) pas).2.2 with
     |none=>rw [h] at c1;cases c1
     |some p=>exact ⟨_,_,_,rfl⟩
    have hn3:(aW (w++b) pas).2.2=some (c,s,d):=by rw [hx];exact hn2
    have hd:=rC hab hn2
    have ec:mq ((aW w pas).2.1++b) pas=c:=by unfold mq;rw [hn2]
    have es:dv ((aW w pas).2.1++b) pas=s:=by unfold dv;rw [hn2]
    have ed:dn ((aW w pas).2.1++b) pas=d:=by unfold dn;rw [hn2]
    have hS2:=sG hw hn3
    unfold fk at hS2
    change VO.cells (vV pas _)=_ at hS2
    injection hS2 with hS2
    rw [ec,es,ed]
    refine ⟨hd,⟨rfl,rfl,trivial⟩,.inr ⟨_,rfl,?_,?_⟩⟩
    ·rw [hS2]
     have:(((aW w pas).1.length:Nat):Int)+((cn ((aW w pas).2.1++b) pas).length:Nat)=(((aW (w++b) pas).1.length:Nat):Int):=by
      rw [hx];simp only [length_append,cn];omega
     rw [this]
     exact ⟨.refl _,.refl _,.nil 1,.refl _,.refl _,.refl _,.refl _,trivial⟩
    ·unfold rD
     rw [e1,wK hn3]
     refine .tup ⟨O5 (rB hab) _,?_,trivial⟩
     simp only [TV.ren,aB,hd.ren,Tok.ren]
     exact .refl _
end
abbrev vX:=14
abbrev uz:=97
abbrev uA:=98
abbrev uB:=53
abbrev KP:=54
abbrev Ez:=30
def KQ:List Nat:= [0,1,12,13]
def Gx (l:Bs)(j:Int):List TV:= [.vec 2 l .none,.vec 2 l .none,.val (.int .i64 l.length),.val (.int .i64 j)]
def Xi (l:Bs)(c0:Code):Nat→Option (cB × Code):=cG [(0,dB 26 KQ [] (Gx l 0) ⟨[],[]⟩ (λK=>K .normal (aJ 26 KQ (Gx l l.length)) ⟨[],[]⟩ []),c0)]
def Xj (o h m:Int)(hm:Bool)(x:Bs):VO:=.cells [.val (.int .i64 o),.vec 1 x .none,.val (.int .u32 h),.val (.int .i64 m),.val (.bool hm)]
def KR (o h m:Int)(hm:Bool)(x:Bs):TV:=.agg [.val (.int .i64 o),.vec 1 x .none,.val (.int .u32 h),.val (.int .i64 m),.val (.bool hm)]
def KT:List Nat:= [2,3,43,44]
def Gy (x:Bs)(j:Int):List TV:= [.ptr 0 0,.ptr 1 0,.val (.int .i64 x.length),.val (.int .i64 j)]
def KU (o h m:Int)(hm:Bool)(x:Bs):VT:=⟨[Xj o h m hm x,Xj o h m hm x],[]⟩
def Xk (o h m:Int)(hm:Bool)(x:Bs)(c0:Code):Nat→Option (cB × Code):=cG [(0,dB 59 KT [] (Gy x 0) (KU o h m hm x) (λK=>K .normal (aJ 59 KT (Gy x x.length)) (KU o h m hm x) []),c0)]
def KV:List Nat:= [2,3,36,37]
def KW (n h i:Int)(l:Bs):VT:=⟨[.cells [.val (.int .i64 n),.val (.int .i64 h),.val (.int .u32 i),.vec 2 l .none],.cells [.val (.int .i64 n),.val (.int .i64 h),.val (.int .u32 i),.vec 2 l .none]],[]⟩
def Xl (n h i:Int)(l:Bs):TV:=.agg [.val (.int .i64 n),.val (.int .i64 h),.val (.int .u32 i),.vec 2 l .none]
def Gz (l:Bs)(j:Int):List TV:= [.ptr 0 0,.ptr 1 0,.val (.int .i64 l.length),.val (.int .i64 j)]
def Xm (n h i:Int)(l:Bs)(c0:Code):Nat→Option (cB × Code):=cG [(0,dB 71 KV [] (Gz l 0) (KW n h i l) (λK=>K .normal (aJ 71 KV (Gz l l.length)) (KW n h i l) []),c0)]
def O6:be:=λ_ ys T K=>match ys with
 |[.vec 2 l _,.vec 2 l' _]=>NA l l'∧K (.val (.bool true)) T
 |_=>aR 83 default ys
def O7:be:=λ_ ys T K=>match ys with
 |[.agg l,.agg l']=>UU l l'∧K (.val (.bool true)) T
 |_=>aR 83 default ys
def O8:be:=λ_ ys T K=>match ys with
 |[.agg l,.agg l']=>UV l l'∧K (.val (.bool true)) T
 |_=>aR 83 default ys
def O9:be:=λ_ ys T K=>match ys with
 |[.agg l,.agg l']=>UW l l'∧K (.val (.bool true)) T
 |_=>aR 83 default ys
def yC:be:=λ_ ys T K=>match ys with
 |[.agg l,.agg l']=>Ab l l'∧K (.val (.bool true)) T
 |_=>aR 83 default ys
def yD (m:MsgS)(x:TV):VO:=.cells [.val (.int .i64 m.k),.val (.int .i64 m.op.n),.val (.int .i64 m.op.h),.val (.int .u32 m.op.i),x,.val (.slice none 0 0),.val (.int .i64 0),.val (.slice none 0 0),.val (.int .u32 0),.val (.int .i64 0),.val (.bool false),.val (.slice none 0 0),.val (.int .i64 m.c),.val (.int .i64 m.s),.vec 1 m.d .none]
def uC:TV:=.val (.slice none 0 0)
theorem WD (c s:Int)(d:Bs)(sb:ByteArray)(Q:TV→VT→Prop):au prog ah aZ (bc [(20,.val (.string sb),some λT=>T),(23,.val (.string sb),some λT=>T)]) 300 aG 0 vX [cD c s d,cD c s d] ap Q=
 (bif aq eql (k6 c c)
 then (bif aq eql (k6 s s)
 then (br prog (λ_=>.none) 0 (wm c s d c s d) (.convert 22 9 (.tmp 19)) [(19,(an d))] (.val (.string sb)) (wm c s d c s d)∧
 (br prog (λ_=>.none) 0 (wm c s d c s d) (.convert 22 9 (.tmp 22)) [(22,(an d))] (.val (.string sb)) (wm c s d c s d)∧
 Q (ei (aq eql (aT (Value.string sb) (Value.string sb)))) (wm c s d c s d)))
 else Q av (wm c s d c s d))
 else Q av (wm c s d c s d)):=by kernel_rfl
theorem WE (l:Bs)(Q:TV→VT→Prop):au prog ah aZ aM 300 (Xi l (aA prog uz 0)) 0 uz [.vec 2 l .none,.vec 2 l .none] ap Q=
 (bif aq neq (k6 (↑(length l):Int) (↑(length l):Int))
 then Q av ap
 else ((aA prog uz (0:Nat)=aA prog uz (0:Nat))∧
 (((@Eq (Option Nat) .none .none)∧
 ((@Eq (Nat) 0 0)∧
 ((@Eq (List Nat) [] [])∧
 (True  ∧
 ((@Eq (VT) ap ap)∧
 ((@Eq (Bool) true true)∧
 (@Eq (List TV) [(bD l),(bD l),(ae (↑(length l):Int)),aE] [(bD l),(bD l),(ae (↑(length l):Int)),aE])))))))∧
 Q aF ap))):=by kernel_rfl
theorem KY (l:Bs)(j a n:Int)(Q:Exit→List TV→VT→List Nat→Nat→Prop):vx prog ah aZ (bc [(18,.elt [.val (.int .u32 a),.val (.int .i64 n)],none),(22,.elt [.val (.int .u32 a),.val (.int .i64 n)],none)]) 300 aG none 0 (cM prog uz 0) (aJ 26 KQ (Gx l j)) ap [] (de KQ Q)=
 (bif decide (j<(↑(length l):Int))
 then (ba prog (λ_=>.none) (.indexAddr 58 (.tmp 16) (.tmp 17)) [(16,(bD l)),(17,(ae j))] (.elt [(cc a),(ae n)])∧
 (ba prog (λ_=>.none) (.indexAddr 58 (.tmp 20) (.tmp 21)) [(20,(bD l)),(21,(ae j))] (.elt [(cc a),(ae n)])∧
 (bif aq neq (aT ((λvs=>Value.agg (toArray vs)) ((λx=>Value.int u32 a::x) ((λx=>Value.int i64 n::x) []))) ((λvs=>Value.agg (toArray vs)) ((λx=>Value.int u32 a::x) ((λx=>Value.int i64 n::x) []))))
 then Q .ret [(bD l),(bD l),(ae (↑(length l):Int)),(ae j)] ap [] 26
 else Q .normal [(bD l),(bD l),(ae (↑(length l):Int)),(ae (wrap i64 (j+(1:Int))))] ap [] 26)))
 else Q (.exit 0) [(bD l),(bD l),(ae (↑(length l):Int)),(ae j)] ap [] 26):=by kernel_rfl
theorem WF (o h m:Int)(hm:Bool)(x:Bs)(Q:TV→VT→Prop):au prog ah aZ aM 300 (Xk o h m hm x (aA prog uA 0)) 0 uA [KR o h m hm x,KR o h m hm x] ap Q=
 (bif aq neq (k6 o o)
 then Q av (oU o x h m hm o x h m hm)
 else (bif aq neq (aT (Value.int u32 h) (Value.int u32 h))
 then Q av (oU o x h m hm o x h m hm)
 else (bif aq neq (k6 m m)
 then Q av (oU o x h m hm o x h m hm)
 else (bif aq neq (aT (Value.bool hm) (Value.bool hm))
 then Q av (oU o x h m hm o x h m hm)
 else (bif aq neq (k6 (↑(length x):Int) (↑(length x):Int))
 then Q av (oU o x h m hm o x h m hm)
 else ((aA prog uA (0:Nat)=aA prog uA (0:Nat))∧
 (((@Eq (Option Nat) .none .none)∧
 ((@Eq (Nat) 0 0)∧
 ((@Eq (List Nat) [] [])∧
 (True  ∧
 ((@Eq (VT) (oU o x h m hm o x h m hm) (oU o x h m hm o x h m hm))∧
 ((@Eq (Bool) true true)∧
 (@Eq (List TV) (Hu (↑(length x):Int)) (Hu (↑(length x):Int)))))))))∧
 Q aF (oU o x h m hm o x h m hm)))))))):=by kernel_rfl
theorem KZ (o h m:Int)(hm:Bool)(x:Bs)(j a:Int)(Q:Exit→List TV→VT→List Nat→Nat→Prop):vx prog ah aZ (bc [(50,.elt [.val (.int .i64 a)],none),(55,.elt [.val (.int .i64 a)],none)]) 300 aG none 0 (cM prog uA 0) (aJ 59 KT (Gy x j)) (KU o h m hm x) [] (de KT Q)=
 (bif decide (j<(↑(length x):Int))
 then (ba prog (λ_=>.none) (.indexAddr 59 (.tmp 48) (.tmp 49)) [(48,(an x)),(49,(ae j))] (.elt [(ae a)])∧
 (ba prog (λ_=>.none) (.indexAddr 59 (.tmp 53) (.tmp 54)) [(53,(an x)),(54,(ae j))] (.elt [(ae a)])∧
 (bif aq neq (k6 a a)
 then Q .ret (wl (↑(length x):Int) j) (oU o x h m hm o x h m hm) [] 59
 else Q .normal (wl (↑(length x):Int) (wrap i64 (j+(1:Int)))) (oU o x h m hm o x h m hm) [] 59)))
 else Q (.exit 0) (wl (↑(length x):Int) j) (oU o x h m hm o x h m hm) [] 59):=by kernel_rfl
theorem WG (n h i:Int)(l:Bs)(Q:TV→VT→Prop):au prog ah aZ aM 300 (Xm n h i l (aA prog uB 0)) 0 uB [Xl n h i l,Xl n h i l] ap Q=
 (bif aq neq (k6 n n)
 then Q av (mF n h i l n h i l)
 else (bif aq neq (k6 h h)
 then Q av (mF n h i l n h i l)
 else (bif aq neq (aT (Value.int u32 i) (Value.int u32 i))
 then Q av (mF n h i l n h i l)
 else (bif aq neq (k6 (↑(length l):Int) (↑(length l):Int))
 then Q av (mF n h i l n h i l)
 else ((aA prog uB (0:Nat)=aA prog uB (0:Nat))∧
 (((@Eq (Option Nat) .none .none)∧
 ((@Eq (Nat) 0 0)∧
 ((@Eq (List Nat) [] [])∧
 (True  ∧
 ((@Eq (VT) (mF n h i l n h i l) (mF n h i l n h i l))∧
 ((@Eq (Bool) true true)∧
 (@Eq (List TV) (Hu (↑(length l):Int)) (Hu (↑(length l):Int)))))))))∧
 Q aF (mF n h i l n h i l))))))):=by kernel_rfl
theorem K0 (n h i:Int)(l:Bs)(j c:Int)(v:Bs)(sb:ByteArray)(Q:Exit→List TV→VT→List Nat→Nat→Prop):vx prog ah aZ (bc [(43,.elt [.val (.int .i64 c),.vec 1 v .none],none),(49,.elt [.val (.int .i64 c),.vec 1 v .none],none),(57,.elt [.val (.int .i64 c),.vec 1 v .none],none),(64,.elt [.val (.int .i64 c),.vec 1 v .none],none),(60,.val (.string sb),none),(67,.val (.string sb),none)]) 300 aG none 0 (cM prog uB 0) (aJ 71 KV (Gz l j)) (KW n h i l) [] (de KV Q)=
 (bif decide (j<(↑(length l):Int))
 then (ba prog (λ_=>.none) (.indexAddr 68 (.tmp 41) (.tmp 42)) [(41,(bD l)),(42,(ae j))] (C3 c v)∧
 (ba prog (λ_=>.none) (.indexAddr 68 (.tmp 47) (.tmp 48)) [(47,(bD l)),(48,(ae j))] (C3 c v)∧
 (bif aq neq (k6 c c)
 then Q .ret (wl (↑(length l):Int) j) (mF n h i l n h i l) [] 71
 else (ba prog (λ_=>.none) (.indexAddr 68 (.tmp 55) (.tmp 56)) [(55,(bD l)),(56,(ae j))] (C3 c v)∧
 (By prog (mF n h i l n h i l) 22 9 (an v) (.val (.string sb))∧
 (ba prog (λ_=>.none) (.indexAddr 68 (.tmp 62) (.tmp 63)) [(62,(bD l)),(63,(ae j))] (C3 c v)∧
 (By prog (mF n h i l n h i l) 22 9 (an v) (.val (.string sb))∧
 (bif aq neq (aT (Value.string sb) (Value.string sb))
 then Q .ret (wl (↑(length l):Int) j) (mF n h i l n h i l) [] 71
 else Q .normal (wl (↑(length l):Int) (wrap i64 (j+(1:Int)))) (mF n h i l n h i l) [] 71))))))))
 else Q (.exit 0) (wl (↑(length l):Int) j) (mF n h i l n h i l) [] 71):=by kernel_rfl
abbrev Pa (u:UpS):VO:=(HB (UpS.w u) (UpS.o u) (UpS.x u) (UpS.h u) (UpS.m u) (UpS.hm u) (UpS.n u))
theorem WH (u:UpS)(Q:TV→VT→Prop):au prog ah (aI [(uz,O6),(uA,O7)]) aM 300 aG 0 KP [.agg u.cells,.agg u.cells] ap Q=
 (NA (UpS.w u) (UpS.w u)∧
 (NA (UpS.n u) (UpS.n u)∧
 (UU [(ae (UpS.o u)),(an (UpS.x u)),(cc (UpS.h u)),(ae (UpS.m u)),(ei (UpS.hm u))] [(ae (UpS.o u)),(an (UpS.x u)),(cc (UpS.h u)),(ae (UpS.m u)),(ei (UpS.hm u))]∧
 Q aF ⟨[(Pa u),(Pa u)],[]⟩))):=by kernel_rfl
abbrev jn (m:MsgS):VO:=(Sp (MsgS.k m) (OpS.n (MsgS.op m)) (OpS.h (MsgS.op m)) (OpS.i (MsgS.op m)) (OpS.l (MsgS.op m)) (UpS.w (MsgS.u m)) (UpS.o (MsgS.u m)) (UpS.x (MsgS.u m)) (UpS.h (MsgS.u m)) (UpS.m (MsgS.u m)) (UpS.hm (MsgS.u m)) (UpS.n (MsgS.u m)) (MsgS.c m) (MsgS.s m) (MsgS.d m))
theorem Vh (m:MsgS)(Q:TV→VT→Prop):au prog ah (aI [(uB,O8),(KP,O9),(vX,yC)]) aM 300 aG 0 Ez [.agg m.cells,.agg m.cells] ap Q=
 (bif aq eql (k6 (MsgS.k m) (MsgS.k m))
 then (UV [(ae (OpS.n (MsgS.op m))),(ae (OpS.h (MsgS.op m))),(cc (OpS.i (MsgS.op m))),(bD (OpS.l (MsgS.op m)))] [(ae (OpS.n (MsgS.op m))),(ae (OpS.h (MsgS.op m))),(cc (OpS.i (MsgS.op m))),(bD (OpS.l (MsgS.op m)))]∧
 (UW [(bD (UpS.w (MsgS.u m))),(ae (UpS.o (MsgS.u m))),(an (UpS.x (MsgS.u m))),(cc (UpS.h (MsgS.u m))),(ae (UpS.m (MsgS.u m))),(ei (UpS.hm (MsgS.u m))),(bD (UpS.n (MsgS.u m)))] [(bD (UpS.w (MsgS.u m))),(ae (UpS.o (MsgS.u m))),(an (UpS.x (MsgS.u m))),(cc (UpS.h (MsgS.u m))),(ae (UpS.m (MsgS.u m))),(ei (UpS.hm (MsgS.u m))),(bD (UpS.n (MsgS.u m)))]∧
 (Ab (tP (MsgS.c m) (MsgS.s m) (MsgS.d m)) (tP (MsgS.c m) (MsgS.s m) (MsgS.d m))∧
 Q aF ⟨[(jn m),(jn m)],[]⟩)))
 else Q av ⟨[(jn m),(jn m)],[]⟩):=by kernel_rfl
end Go.Proofs.YtogbdjlelkepcaaGreatDoor