/-Part 6 of the proof of frameFeedsCard_holds:MsTk,MsTl,MsTm ... No condition. -/
import Derived.Deep.Slices
import Derived.ProofKit
import Derived.OpenShut
import Derived.Lib.SmallJoins
import Derived.Lib.LaidTab
import Derived.LaidHandle
import Derived.ChangeVars
import Derived.JoinedOf
import Derived.Stop.Joined
import Derived.Test.YtogbdjlelkepcaaGreatDoorFd1
import Derived.Test.YtogbdjlelkepcaaGreatDoorFd2
import Derived.Test.YtogbdjlelkepcaaGreatDoorFd3
import Derived.Test.YtogbdjlelkepcaaGreatDoorFd4
import Derived.Test.YtogbdjlelkepcaaGreatDoorFd5
set_option maxRecDepth 100000
namespace Go.Proofs.YtogbdjlelkepcaaGreatDoor
open Go.RowKit
open Go.BinOp (eql neq)
open _root_.BitVec (ofInt toNat)
open _root_.Int (fdiv ofNat_inj toNat_natCast)
open Go.IntKind (i64 signed u32 u64 u8 wrap)
open _root_.List (drop flatten getElem?_eq_getElem getElem?_map length length_append length_cons length_map length_nil length_take map_cons map_nil mem_append mem_cons mem_singleton not_mem_nil take_succ_cons take_zero toArray)
open _root_.Nat (add_comm beq beq_refl le_refl zero_add zero_le)
open Go.Program (toTables)
open Go.Tables (types)
open Go.Proofs.Tryz (prog)
open Go.Value (oneCell')
abbrev DS:=118
abbrev H9:=125
abbrev DT:=162
abbrev BZ:=145
def DU:be:=λ_ ys T K=>match ys with
 |[.vec 1 v _,.val (.int .i64 0)]=>(IsB v∧tK 4 v)∧K (.tup [.val (.int .u32 (cQ 4 v)),.val (.bool true)]) T
 |_=>False
def lX (a:Int):Bool:=aq neq (aT (Value.int u32 a) (Value.int u32 (0:Int)))&&(aq neq (aT (Value.int u32 a) (Value.int u32 (4294967295:Int)))&&(aq neq (aT (Value.int u32 (fdiv a ((2:Int)^min (Int.toNat (24:Int)) (IntKind.bits u32)))) (Value.int u32 (127:Int)))&&aq neq (aT (Value.int u32 (fdiv a ((2:Int)^min (Int.toNat (29:Int)) (IntKind.bits u32)))) (Value.int u32 (7:Int)))))
def mP (v:Bs):Bs:=iV (sV v)
def wD:be:=λ_ ys T K=>match ys with
 |[.val (.int .u32 a)]=>K (.val (.bool (lX a))) T
 |_=>False
def wE:be:=λ_ ys T K=>match ys with
 |[.vec 1 v _]=>IsB v∧K (.tup [.vec 1 (mP v) .none,.val (.bool (lr v))]) T
 |_=>False
def lY (o h m:Int)(hm:Bool)(x:TV):VO:=.cells [.val (.int .i64 o),x,.val (.int .u32 h),.val (.int .i64 m),.val (.bool hm)]
def ik (fl t:Int)(v:Bs):TV:=.agg [.val (.int .i64 fl),.val (.int .i64 t),.vec 1 v .none]
theorem T9 (a:Int)(Q:TV→VT→Prop):au prog ah aZ aM 300 aG 0 DT [.val (.int .u32 a)] ap Q=
 (bif aq neq (aT (Value.int u32 a) (Value.int u32 (0:Int)))
 then (bif aq neq (aT (Value.int u32 a) (Value.int u32 (4294967295:Int)))
 then (bif aq neq (aT (Value.int u32 (fdiv a ((2:Int)^min (Int.toNat (24:Int)) (IntKind.bits u32)))) (Value.int u32 (127:Int)))
 then Q (ei (aq neq (aT (Value.int u32 (fdiv a ((2:Int)^min (Int.toNat (29:Int)) (IntKind.bits u32)))) (Value.int u32 (7:Int))))) ap
 else Q av ap)
 else Q av ap)
 else Q av ap):=by kernel_rfl
theorem QV (a:Int)(Q:TV→VT→Prop):au prog ah aZ aM 300 aG 0 BZ [.val (.int .u32 a)] ap Q=
 (bif aq neq (aT (Value.int u32 a) (Value.int u32 (0:Int)))
 then (bif aq neq (aT (Value.int u32 a) (Value.int u32 (4294967295:Int)))
 then (bif aq neq (aT (Value.int u32 (fdiv a ((2:Int)^min (Int.toNat (24:Int)) (IntKind.bits u32)))) (Value.int u32 (127:Int)))
 then Q (ei (aq neq (aT (Value.int u32 (fdiv a ((2:Int)^min (Int.toNat (29:Int)) (IntKind.bits u32)))) (Value.int u32 (7:Int))))) ap
 else Q av ap)
 else Q av ap)
 else Q av ap):=by kernel_rfl
abbrev jT:VO:=(Wf (.fn (.func 159) [] [(.ptr 2 0)]))
abbrev B0:VO:=(HM (.fn (.func 158) [] [(.ptr 2 0)]))
abbrev B1:VO:=(HL (.fn (.func 161) [] [(.ptr 2 0)]))
abbrev lZ:VO:=(We (.fn (.func 163) [] [(.ptr 2 0)]))
theorem Ua (o h m fl t:Int)(hm:Bool)(x:TV)(Q:TV→VT→Prop):au prog ah (aI [(kA,wE),(u7,DU),(DT,wD)]) (bc [(999999,.dead,none)]) 300 aG 0 DS [.ptr 0 0,ik fl t []] (bC (lY o h m hm x)) Q=
 (bif aq eql (k6 t (1:Int))
 then (bif aq neq (k6 (wrap i64 (↑(toNat (ofInt (IntKind.bits i64) fl&&&~~~ofInt (IntKind.bits i64) (16:Int))):Int)) (64:Int))
 then Q gW ⟨[(ej o x h m hm),(lM fl t),cw,B0,B0],[]⟩
 else Q n8 ⟨[(ej o x h m hm),(lM fl t),cw,B0,B0],[]⟩)
 else (bif aq eql (k6 t (2:Int))
 then (bif aq neq (k6 (wrap i64 (↑(toNat (ofInt (IntKind.bits i64) fl&&&~~~ofInt (IntKind.bits i64) (16:Int))):Int)) (64:Int))
 then Q gW ⟨[(ej o x h m hm),(lM fl t),cw,jT,jT],[]⟩
 else (IsB []∧
 (bif !lr []
 then Q u1 ⟨[(ej o x h m hm),(lM fl t),cw,jT,jT],[]⟩
 else Q aE ⟨[(mG o (mP []) h m hm),(lM fl t),cw,jT,jT],[]⟩)))
 else (bif aq eql (k6 t (3:Int))
 then (bif aq neq (k6 (wrap i64 (↑(toNat (ofInt (IntKind.bits i64) fl&&&~~~ofInt (IntKind.bits i64) (16:Int))):Int)) (64:Int))
 then Q gW ⟨[(ej o x h m hm),(lM fl t),cw,B1,B1],[]⟩
 else Q n8 ⟨[(ej o x h m hm),(lM fl t),cw,B1,B1],[]⟩)
 else (bif aq eql (k6 t (4:Int))
 then (bif aq neq (k6 (wrap i64 (↑(toNat (ofInt (IntKind.bits i64) fl&&&~~~ofInt (IntKind.bits i64) (16:Int))):Int)) (128:Int))
 then Q gW ⟨[(ej o x h m hm),(lM fl t),cw,lZ,lZ],[]⟩
 else Q n8 ⟨[(ej o x h m hm),(lM fl t),cw,lZ,lZ],[]⟩)
 else (bif aq eql (k6 (wrap i64 (↑(toNat (ofInt (IntKind.bits i64) fl&&&ofInt (IntKind.bits i64) (128:Int))):Int)) (0:Int))
 then Q dK ⟨[(ej o x h m hm),(lM fl t),cw,(pX (.val .nilFunc)),(pX (.val .nilFunc))],[]⟩
 else Q aE ⟨[(ej o x h m hm),(lM fl t),cw,(pX (.val .nilFunc)),(pX (.val .nilFunc))],[]⟩))))):=by kernel_rfl
abbrev oa (fl:Int)(t:Int)(z:Int)(w:Bs):VO:=(dX fl t ([[(.val (.int .u8 (z)))]]++w))
abbrev Ia (z:Int)(x:TV)(h:Int)(m:Int)(hm:Bool)(fl:Int)(t:Int)(w:Bs):VT:=(Oe (wrap i64 z) x h m hm fl t ([[(.val (.int .u8 (z)))]]++w) (.fn (.func 158) [] [(.ptr 2 0)]) (.fn (.func 158) [] [(.ptr 2 0)]))
abbrev Ib (o:Int)(x:TV)(z:Int)(w:Bs)(m:Int)(hm:Bool)(fl:Int)(t:Int):VT:=(Od o x (cQ (4:Int) (bT z::w)) m hm fl t ([[(.val (.int .u8 (z)))]]++w) (.fn (.func 161) [] [(.ptr 2 0)]) (.fn (.func 161) [] [(.ptr 2 0)]))
abbrev Ic (o:Int)(x:TV)(h:Int)(m:Int)(hm:Bool)(fl:Int)(t:Int)(z:Int)(w:Bs):VT:=(Oe o x h m hm fl t ([[(.val (.int .u8 (z)))]]++w) (.fn (.func 158) [] [(.ptr 2 0)]) (.fn (.func 158) [] [(.ptr 2 0)]))
abbrev Id (o:Int)(x:TV)(h:Int)(m:Int)(hm:Bool)(fl:Int)(t:Int)(z:Int)(w:Bs):VT:=(Od o x h m hm fl t ([[(.val (.int .u8 (z)))]]++w) (.fn (.func 161) [] [(.ptr 2 0)]) (.fn (.func 161) [] [(.ptr 2 0)]))
theorem Ub (o h m fl t z:Int)(hm:Bool)(x:TV)(w:Bs)(Q:TV→VT→Prop):au prog ah (aI [(kA,wE),(u7,DU),(DT,wD)]) (bc [(999999,.dead,none)]) 300 aG 0 DS [.ptr 0 0,ik fl t (bT z::w)] (bC (lY o h m hm x)) Q=
 (bif aq eql (k6 t (1:Int))
 then (bif aq neq (k6 (wrap i64 (↑(toNat (ofInt (IntKind.bits i64) fl&&&~~~ofInt (IntKind.bits i64) (16:Int))):Int)) (64:Int))
 then Q gW (Ic o x h m hm fl t z w)
 else (bif aq neq (k6 (↑(length (bT z::w)):Int) (1:Int))
 then Q n8 (Ic o x h m hm fl t z w)
 else (bif decide (wrap i64 z>(2:Int))
 then Q sf (Ia z x h m hm fl t w)
 else Q aE (Ia z x h m hm fl t w))))
 else (bif aq eql (k6 t (2:Int))
 then (bif aq neq (k6 (wrap i64 (↑(toNat (ofInt (IntKind.bits i64) fl&&&~~~ofInt (IntKind.bits i64) (16:Int))):Int)) (64:Int))
 then Q gW ⟨[(ej o x h m hm),(oa fl t z w),cw,jT,jT],[]⟩
 else (IsB ([(dm z)]++w)∧
 (bif !lr (bT z::w)
 then Q u1 ⟨[(ej o x h m hm),(oa fl t z w),cw,jT,jT],[]⟩
 else Q aE ⟨[(mG o (mP (bT z::w)) h m hm),(oa fl t z w),cw,jT,jT],[]⟩)))
 else (bif aq eql (k6 t (3:Int))
 then (bif aq neq (k6 (wrap i64 (↑(toNat (ofInt (IntKind.bits i64) fl&&&~~~ofInt (IntKind.bits i64) (16:Int))):Int)) (64:Int))
 then Q gW (Id o x h m hm fl t z w)
 else (bif aq neq (k6 (↑(length (bT z::w)):Int) (4:Int))
 then Q n8 (Id o x h m hm fl t z w)
 else ((IsB ([(dm z)]++w)∧
 tK 4 ([(dm z)]++w))∧
 (bif !lX (cQ (4:Int) (bT z::w))
 then Q xN (Ib o x z w m hm fl t)
 else Q aE (Ib o x z w m hm fl t)))))
 else (bif aq eql (k6 t (4:Int))
 then (bif aq neq (k6 (wrap i64 (↑(toNat (ofInt (IntKind.bits i64) fl&&&~~~ofInt (IntKind.bits i64) (16:Int))):Int)) (128:Int))
 then Q gW ⟨[(ej o x h m hm),(oa fl t z w),cw,lZ,lZ],[]⟩
 else (bif aq neq (k6 (↑(length (bT z::w)):Int) (4:Int))
 then Q n8 ⟨[(ej o x h m hm),(oa fl t z w),cw,lZ,lZ],[]⟩
 else ((IsB ([(dm z)]++w)∧
 tK 4 ([(dm z)]++w))∧
 Q aE ⟨[(.cells [(ae o),x,(cc h),(ae (wrap i64 (cQ (4:Int) (bT z::w)))),aF]),(oa fl t z w),cw,lZ,lZ],[]⟩)))
 else (bif aq eql (k6 (wrap i64 (↑(toNat (ofInt (IntKind.bits i64) fl&&&ofInt (IntKind.bits i64) (128:Int))):Int)) (0:Int))
 then Q dK ⟨[(ej o x h m hm),(oa fl t z w),cw,(pX (.val .nilFunc)),(pX (.val .nilFunc))],[]⟩
 else Q aE ⟨[(ej o x h m hm),(oa fl t z w),cw,(pX (.val .nilFunc)),(pX (.val .nilFunc))],[]⟩))))):=by kernel_rfl
theorem Uc (o h m fl t:Int)(hm:Bool)(x:TV)(v:Bs)(Q:TV→VT→Prop):au prog ah (aI [(jc,wE),(mI,xT),(BZ,wD)]) (bc [(999999,.dead,none)]) 300 aG 0 H9 [.ptr 0 0,ik fl t v] (bC (lY o h m hm x)) Q=
 (bif aq eql (k6 t (1:Int))
 then (bif aq neq (k6 (wrap i64 (↑(toNat (ofInt (IntKind.bits i64) fl&&&~~~ofInt (IntKind.bits i64) (16:Int))):Int)) (64:Int))
 then Q gW (dg o x h m hm fl t v)
 else (bif aq neq (k6 (↑(length v):Int) (1:Int))
 then Q n8 (dg o x h m hm fl t v)
 else ((IsB (v)∧
 (oT (v)∧
 (jB 1∧
 (@Eq (Int) 0 0))))∧
 (bif aq eql (k6 t (1:Int))
 then (bif decide (fP (1:Int) v>(2:Int))
 then Q sf (dg o x h m hm fl t v)
 else Q aE (dg (wrap i64 (fP (1:Int) v)) x h m hm fl t v))
 else (bif aq eql (k6 t (2:Int))
 then (IsB (v)∧
 (bif !lr v
 then Q u1 (dg o x h m hm fl t v)
 else Q aE (BI o (mP v) h m hm fl t v)))
 else (bif aq eql (k6 t (3:Int))
 then (bif !lX (wrap u32 (fP (1:Int) v))
 then Q xN (dg o x h m hm fl t v)
 else Q aE (dg o x (wrap u32 (fP (1:Int) v)) m hm fl t v))
 else (bif aq eql (k6 t (4:Int))
 then Q aE (BH o x h (wrap i64 (fP (1:Int) v)) fl t v)
 else Q aE (dg o x h m hm fl t v))))))))
 else (bif aq eql (k6 t (3:Int))
 then (bif aq neq (k6 (wrap i64 (↑(toNat (ofInt (IntKind.bits i64) fl&&&~~~ofInt (IntKind.bits i64) (16:Int))):Int)) (64:Int))
 then Q gW (dg o x h m hm fl t v)
 else (bif aq neq (k6 (↑(length v):Int) (4:Int))
 then Q n8 (dg o x h m hm fl t v)
 else ((IsB (v)∧
 (oT (v)∧
 (jB 4∧
 (@Eq (Int) 0 0))))∧
 (bif aq eql (k6 t (1:Int))
 then (bif decide (fP (4:Int) v>(2:Int))
 then Q sf (dg o x h m hm fl t v)
 else Q aE (dg (wrap i64 (fP (4:Int) v)) x h m hm fl t v))
 else (bif aq eql (k6 t (2:Int))
 then (IsB (v)∧
 (bif !lr v
 then Q u1 (dg o x h m hm fl t v)
 else Q aE (BI o (mP v) h m hm fl t v)))
 else (bif aq eql (k6 t (3:Int))
 then (bif !lX (wrap u32 (fP (4:Int) v))
 then Q xN (dg o x h m hm fl t v)
 else Q aE (dg o x (wrap u32 (fP (4:Int) v)) m hm fl t v))
 else (bif aq eql (k6 t (4:Int))
 then Q aE (BH o x h (wrap i64 (fP (4:Int) v)) fl t v)
 else Q aE (dg o x h m hm fl t v))))))))
 else (bif aq eql (k6 t (4:Int))
 then (bif aq neq (k6 (wrap i64 (↑(toNat (ofInt (IntKind.bits i64) fl&&&~~~ofInt (IntKind.bits i64) (16:Int))):Int)) (128:Int))
 then Q gW (dg o x h m hm fl t v)
 else (bif aq neq (k6 (↑(length v):Int) (4:Int))
 then Q n8 (dg o x h m hm fl t v)
 else ((IsB (v)∧
 (oT (v)∧
 (jB 4∧
 (@Eq (Int) 0 0))))∧
 (bif aq eql (k6 t (1:Int))
 then (bif decide (fP (4:Int) v>(2:Int))
 then Q sf (dg o x h m hm fl t v)
 else Q aE (dg (wrap i64 (fP (4:Int) v)) x h m hm fl t v))
 else (bif aq eql (k6 t (2:Int))
 then (IsB (v)∧
 (bif !lr v
 then Q u1 (dg o x h m hm fl t v)
 else Q aE (BI o (mP v) h m hm fl t v)))
 else (bif aq eql (k6 t (3:Int))
 then (bif !lX (wrap u32 (fP (4:Int) v))
 then Q xN (dg o x h m hm fl t v)
 else Q aE (dg o x (wrap u32 (fP (4:Int) v)) m hm fl t v))
 else (bif aq eql (k6 t (4:Int))
 then Q aE (BH o x h (wrap i64 (fP (4:Int) v)) fl t v)
 else Q aE (dg o x h m hm fl t v))))))))
 else (bif aq eql (k6 t (2:Int))
 then (bif aq neq (k6 (wrap i64 (↑(toNat (ofInt (IntKind.bits i64) fl&&&~~~ofInt (IntKind.bits i64) (16:Int))):Int)) (64:Int))
 then Q gW (dg o x h m hm fl t v)
 else ((IsB (v)∧
 (oT (v)∧
 (jB 0∧
 (@Eq (Int) 0 0))))∧
 (bif aq eql (k6 t (1:Int))
 then (bif decide (fP (0:Int) v>(2:Int))
 then Q sf (dg o x h m hm fl t v)
 else Q aE (dg (wrap i64 (fP (0:Int) v)) x h m hm fl t v))
 else (bif aq eql (k6 t (2:Int))
 then (IsB (v)∧
 (bif !lr v
 then Q u1 (dg o x h m hm fl t v)
 else Q aE (BI o (mP v) h m hm fl t v)))
 else (bif aq eql (k6 t (3:Int))
 then (bif !lX (wrap u32 (fP (0:Int) v))
 then Q xN (dg o x h m hm fl t v)
 else Q aE (dg o x (wrap u32 (fP (0:Int) v)) m hm fl t v))
 else (bif aq eql (k6 t (4:Int))
 then Q aE (BH o x h (wrap i64 (fP (0:Int) v)) fl t v)
 else Q aE (dg o x h m hm fl t v)))))))
 else (bif aq eql (k6 (wrap i64 (↑(toNat (ofInt (IntKind.bits i64) fl&&&ofInt (IntKind.bits i64) (128:Int))):Int)) (0:Int))
 then Q dK (dg o x h m hm fl t v)
 else Q aE (dg o x h m hm fl t v)))))):=by kernel_rfl
theorem QW (a:Int):VCx prog ah 0 DT [.val (.int .u32 a)] ⟨[],[]⟩ λx T'=>x=.val (.bool (lX a))∧T'=⟨[],[]⟩:=by
 refine aj ag ac am ai (T9 a _) ?_
 unfold lX
 refine ak (λc1=> ?_) (λc1=> ?_)
 ·refine ak (λc2=> ?_) (λc2=> ?_)
  ·refine ak (λc3=> ?_) (λc3=> ?_)
   ·rw [c1,c2,c3,Bool.true_and,Bool.true_and,Bool.true_and];exact ⟨rfl,rfl⟩
   ·rw [c1,c2,c3,Bool.true_and,Bool.true_and,Bool.false_and];exact ⟨rfl,rfl⟩
  ·rw [c1,c2,Bool.true_and,Bool.false_and];exact ⟨rfl,rfl⟩
 ·rw [c1,Bool.false_and];exact ⟨rfl,rfl⟩
theorem Ni (a:Int):VCx prog ah 0 BZ [.val (.int .u32 a)] ⟨[],[]⟩ λx T'=>x=.val (.bool (lX a))∧T'=⟨[],[]⟩:=by
 refine aj ag ac am ai (QV a _) ?_
 unfold lX
 refine ak (λc1=> ?_) (λc1=> ?_)
 ·refine ak (λc2=> ?_) (λc2=> ?_)
  ·refine ak (λc3=> ?_) (λc3=> ?_)
   ·rw [c1,c2,c3,Bool.true_and,Bool.true_and,Bool.true_and];exact ⟨rfl,rfl⟩
   ·rw [c1,c2,c3,Bool.true_and,Bool.true_and,Bool.false_and];exact ⟨rfl,rfl⟩
  ·rw [c1,c2,Bool.true_and,Bool.false_and];exact ⟨rfl,rfl⟩
 ·rw [c1,Bool.false_and];exact ⟨rfl,rfl⟩
theorem FX {f:FuncId}(h:∀a,VCx prog ah 0 f [.val (.int .u32 a)] ⟨[],[]⟩ λx T'=>x=.val (.bool (lX a))∧T'=⟨[],[]⟩):∀ro ys T K,wD ro ys T K→VCx prog ah ro f ys T K:=by
 intro ro ys T K hw
 unfold wD at hw
 split at hw
 ·exact VCx.liftPure aP (h _) rfl (λ_ _=>rfl) hw
 ·exact hw.elim
theorem QX (b:Bs)(f g:Nat→Option Nat):(vQ b).ren f g=vQ b:=by
 simp only [vQ,TV.ren,aB,eP,Tok.ren]
theorem FY {f:FuncId}(h:∀b,IsB b→VCx prog ah 0 f [.vec 1 b .none] ⟨[],[]⟩ λx T'=>x=vQ b∧T'=⟨[],[]⟩):∀ro ys T K,wE ro ys T K→VCx prog ah ro f ys T K:=by
 intro ro ys T K hw
 unfold wE at hw
 split at hw
 ·rename_i v tok
  exact VCx.loosePure aP (h v hw.1) (by simp [cA]) (by simp [aB,TV.ren,hw.1.ren,Tok.ren]) (λf h=>QX v f h) hw.2
 ·exact hw.elim
theorem QY {v:Bs}(hv:IsB v)(hl:tK 4 v):VCx prog ah 0 u7 [.vec 1 v .none,.val (.int .i64 0)] ⟨[],[]⟩ λx T'=>x=.tup [.val (.int .u32 (cQ 4 v)),.val (.bool true)]∧T'=⟨[],[]⟩:=by
 have hs:=hv.small
 have hl2:(4:Int)≤v.length:=hl
 refine aj ag ac (aQ λp hp=>by obtain rfl:=mem_singleton.1 hp;exact zu) ai (PH v _) ?_
 rw [bE (z:=(v.length:Int)-4) (by omega) (by omega)]
 have hg:0≤cQ 4 v∧cQ 4 v<4294967296:=by
  obtain ⟨⟨l,hl3,hz⟩,_⟩:=hv.take 4
  have hlen:l.length=4:=by
   have:=congrArg length hl3
   simp only [bV,length_map,length_take] at this
   omega
  have h:=tJ hz
  rw [hlen] at h
  unfold cQ
  rw [show (4:Int).toNat=4 from rfl,hl3]
  exact ⟨h.1,Int.lt_of_lt_of_le h.2 (by decide)⟩
 have hw:wrap .u32 (cQ 4 v)=cQ 4 v:=by
  generalize cQ 4 v=y at hg
  simp only [wrap,IntKind.bits,signed];simp;omega
 refine aO (by rw [decide_eq_true (show (0:Int)≤(v.length:Int)-4 by omega)];rfl) ⟨?_,⟨hv,⟨by decide,by decide⟩,hl⟩,by rw [hw],rfl⟩
 have h:=tU (x:=.tmp 10) (i:=.tmp 11) (l:= [(10,.vec 1 v .none),(11,.val (.int .i64 0))]) (b:=v) (tok:=.none) (k:=.i64) (z:=0) (n:=0) rfl rfl (Int.le_refl _) rfl (zero_le _)
 rwa [List.drop_zero] at h
theorem QZ:∀ro ys T K,DU ro ys T K→VCx prog ah ro u7 ys T K:=by
 intro ro ys T K hw
 unfold DU at hw
 split at hw
 ·rename_i v tok
  obtain ⟨⟨hv,hl⟩,hk⟩:=hw
  exact VCx.loosePure aP (QY hv hl) (by simp [cA]) (by simp [aB,TV.ren,hv.ren,Tok.ren]) (λf h=>rfl) hk
 ·exact hw.elim
def gR (fl:Int):Int:=wrap i64 (toNat (ofInt (IntKind.bits i64) fl&&&~~~ofInt (IntKind.bits i64) (16:Int)):Nat)
def DV (fl:Int):Bool:=aq eql (aT (Value.int i64 (wrap i64 (toNat (ofInt (IntKind.bits i64) fl&&&ofInt (IntKind.bits i64) (128:Int)):Nat))) (Value.int i64 (0:Int)))
def cI (fl t:Int)(v:Bs):Int:=
 if t=1 then (if ¬gR fl=64 then 4 else if ¬(v.length:Int)=1 then 5 else if cQ 1 v>2 then 6 else 0)
 else if t=2 then (if ¬gR fl=64 then 4 else bif lr v then 0 else 11)
 else if t=3 then (if ¬gR fl=64 then 4 else if ¬(v.length:Int)=4 then 5 else bif lX (cQ 4 v) then 0 else 8)
 else if t=4 then (if ¬gR fl=128 then 4 else if ¬(v.length:Int)=4 then 5 else 0)
 else bif DV fl then 2 else 0
def kD (o h m:Int)(hm:Bool)(x:TV)(t:Int)(v:Bs):VO:=
 if t=1 then lY (cQ 1 v) h m hm x else if t=2 then lY o h m hm (.vec 1 (mP v) .none) else if t=3 then lY o (cQ 4 v) m hm x else if t=4 then lY o h (cQ 4 v) true x else lY o h m hm x
def t9 (o h m:Int)(hm:Bool)(x:TV)(fl t:Int)(v:Bs)(y:TV)(T':VT):Prop:=y=.val (.int .i64 (cI fl t v))∧∃O,T'=⟨[O],[]⟩∧(cI fl t v=0→O=kD o h m hm x t v)
section
variable {o h m fl t s:Int}{hm:Bool}{x:TV}{v:Bs}{O:VO}{l:List VO}
theorem cH (hs:cI fl t v=s)(hne:¬s=0):t9 o h m hm x fl t v (.val (.int .i64 s)) (VT.keep ⟨O::l,[]⟩ 1 0):=⟨by rw [hs],_,rfl,λh=>absurd (hs.symm.trans h) hne⟩
theorem gq (hs:cI fl t v=0)(hO:O=kD o h m hm x t v)(hr:O.ren (ax 1) (ax 0)=O):t9 o h m hm x fl t v (.val (.int .i64 0)) (VT.keep ⟨O::l,[]⟩ 1 0):=⟨by rw [hs],_,rfl,λ_=>by rw [←hO];exact hr⟩
end
theorem dJ {o h m:Int}{hm:Bool}{x:TV}(hx:∀f g,x.ren f g=x)(f g:Nat→Option Nat):(lY o h m hm x).ren f g=lY o h m hm x:=by
 simp only [lY,VO.ren,aB,TV.ren,hx]
theorem sx (v:Bs)(f g:Nat→Option Nat):(TV.vec 1 (mP v) .none).ren f g=.vec 1 (mP v) .none:=by
 simp only [TV.ren,mP,eP,Tok.ren]
theorem Ud {v:Bs}(hv:IsB v)(hl:(v.length:Int)=4):0≤cQ 4 v∧cQ 4 v<4294967296:=by
 obtain ⟨⟨l,hl3,hz⟩,_⟩:=hv.take 4
 have hlen:l.length=4:=by
  have:=congrArg length hl3
  simp only [bV,length_map,length_take] at this
  omega
 have h:=tJ hz
 rw [hlen] at h
 unfold cQ
 rw [show (4:Int).toNat=4 from rfl,hl3]
 exact ⟨h.1,Int.lt_of_lt_of_le h.2 (by decide)⟩
theorem Xc (z:Int)(w:Bs):cQ 1 (bT z::w)=z:=by
 show (0:Int)*256+z=z
 omega
theorem OE:bk prog ah (aI [(kA,wE),(u7,DU),(DT,wD)]):=aQ λp hp=>by
 rcases mem_cons.1 hp with rfl | hp;exact FY λ_ h=>T7 h
 rcases mem_cons.1 hp with rfl | hp;exact QZ
 obtain rfl:=mem_singleton.1 hp;exact FX QW
theorem Q0 (o h m fl t:Int)(hm:Bool){x:TV}(hx:∀f g,x.ren f g=x){v:Bs}(hv:IsB v):VCx prog ah 0 DS [.ptr 0 0,ik fl t v] ⟨[lY o h m hm x],[]⟩ (t9 o h m hm x fl t v):=by
 refine VCx.keepQ 1 0 (le_refl _) (le_refl _) ?_
 cases v with
 |nil=>
  refine aj ag ac OE ai (Ua o h m fl t hm x _) ?_
  refine ak (λa1=> ?_) (λa1=> ?_)
  ·replace a1:=bM a1
   refine ak (λf1=> ?_) (λf1=> ?_)
   ·exact cH (by unfold cI;rw [if_pos a1,if_pos (show ¬gR fl=64 from bX f1)]) (by decide)
   replace f1:gR fl=64:=bZ f1
   exact cH (by unfold cI;rw [if_pos a1,if_neg (λc=>c f1),if_pos (by decide)]) (by decide)
  replace a1:=bB a1
  refine ak (λa2=> ?_) (λa2=> ?_)
  ·replace a2:=bM a2
   refine ak (λf1=> ?_) (λf1=> ?_)
   ·exact cH (by unfold cI;rw [if_neg a1,if_pos a2,if_pos (show ¬gR fl=64 from bX f1)]) (by decide)
   replace f1:gR fl=64:=bZ f1
   refine ⟨hv,?_⟩
   cases hh:lr []
   ·exact cH (by unfold cI;rw [if_neg a1,if_pos a2,if_neg (λc=>c f1),hh];rfl) (by decide)
   ·exact gq (by unfold cI;rw [if_neg a1,if_pos a2,if_neg (λc=>c f1),hh];rfl) (by unfold kD;rw [if_neg a1,if_pos a2];rfl) (dJ (sx _) _ _)
  replace a2:=bB a2
  refine ak (λa3=> ?_) (λa3=> ?_)
  ·replace a3:=bM a3
   refine ak (λf1=> ?_) (λf1=> ?_)
   ·exact cH (by unfold cI;rw [if_neg a1,if_neg a2,if_pos a3,if_pos (show ¬gR fl=64 from bX f1)]) (by decide)
   replace f1:gR fl=64:=bZ f1
   exact cH (by unfold cI;rw [if_neg a1,if_neg a2,if_pos a3,if_neg (λc=>c f1),if_pos (by decide)]) (by decide)
  replace a3:=bB a3
  refine ak (λa4=> ?_) (λa4=> ?_)
  ·replace a4:=bM a4
   refine ak (λf1=> ?_) (λf1=> ?_)
   ·exact cH (by unfold cI;rw [if_neg a1,if_neg a2,if_neg a3,if_pos a4,if_pos (show ¬gR fl=128 from bX f1)]) (by decide)
   replace f1:gR fl=128:=bZ f1
   exact cH (by unfold cI;rw [if_neg a1,if_neg a2,if_neg a3,if_pos a4,if_neg (λc=>c f1),if_pos (by decide)]) (by decide)
  replace a4:=bB a4
  refine ak (λa5=> ?_) (λa5=> ?_)
  ·exact cH (by unfold cI;rw [if_neg a1,if_neg a2,if_neg a3,if_neg a4,show DV fl=true from a5];rfl) (by decide)
  ·exact gq (by unfold cI;rw [if_neg a1,if_neg a2,if_neg a3,if_neg a4,show DV fl=false from a5];rfl) (by unfold kD;rw [if_neg a1,if_neg a2,if_neg a3,if_neg a4];rfl) (dJ hx _ _)
 |cons r w=>
  obtain ⟨z,rfl,hz0,hz1⟩:=hv.at (j:=0) (r:=r) rfl
  refine aj ag ac OE ai (Ub o h m fl t z hm x w _) ?_
  refine ak (λa1=> ?_) (λa1=> ?_)
  ·replace a1:=bM a1
   refine ak (λf1=> ?_) (λf1=> ?_)
   ·exact cH (by unfold cI;rw [if_pos a1,if_pos (show ¬gR fl=64 from bX f1)]) (by decide)
   replace f1:gR fl=64:=bZ f1
   refine ak (λb1=> ?_) (λb1=> ?_)
   ·exact cH (by unfold cI;rw [if_pos a1,if_neg (λc=>c f1),if_pos (show ¬(((bT z::w).length:Nat):Int)=1 from bX b1)]) (by decide)
   have g1:(((bT z::w).length:Nat):Int)=1:=bZ b1
   have hz:z=cQ 1 (bT z::w):=(Xc z w).symm
   have hwz:wrap .i64 z=z:=bE (by omega) (by omega)
   try delta jT lZ oa Ia Ib Ic Id
   rw [hwz]
   refine ak (λb2=> ?_) (λb2=> ?_)
   ·exact cH (by unfold cI;rw [if_pos a1,if_neg (λc=>c f1),if_neg (λc=>c g1),if_pos (by rw [←hz];exact of_decide_eq_true b2)]) (by decide)
   ·exact gq (by unfold cI;rw [if_pos a1,if_neg (λc=>c f1),if_neg (λc=>c g1),if_neg (by rw [←hz];exact of_decide_eq_false b2)]) (by unfold kD;rw [if_pos a1,←hz];rfl) (dJ hx _ _)
  replace a1:=bB a1
  refine ak (λa2=> ?_) (λa2=> ?_)
  ·replace a2:=bM a2
   refine ak (λf1=> ?_) (λf1=> ?_)
   ·exact cH (by unfold cI;rw [if_neg a1,if_pos a2,if_pos (show ¬gR fl=64 from bX f1)]) (by decide)
   replace f1:gR fl=64:=bZ f1
   refine ⟨hv,?_⟩
   cases hh:lr (bT z::w)
   ·exact cH (by unfold cI;rw [if_neg a1,if_pos a2,if_neg (λc=>c f1),hh];rfl) (by decide)
   ·exact gq (by unfold cI;rw [if_neg a1,if_pos a2,if_neg (λc=>c f1),hh];rfl) (by unfold kD;rw [if_neg a1,if_pos a2];rfl) (dJ (sx _) _ _)
  replace a2:=bB a2
  refine ak (λa3=> ?_) (λa3=> ?_)
  ·replace a3:=bM a3
   refine ak (λf1=> ?_) (λf1=> ?_)
   ·exact cH (by unfold cI;rw [if_neg a1,if_neg a2,if_pos a3,if_pos (show ¬gR fl=64 from bX f1)]) (by decide)
   replace f1:gR fl=64:=bZ f1
   refine ak (λb1=> ?_) (λb1=> ?_)
   ·exact cH (by unfold cI;rw [if_neg a1,if_neg a2,if_pos a3,if_neg (λc=>c f1),if_pos (show ¬(((bT z::w).length:Nat):Int)=4 from bX b1)]) (by decide)
   have g1:(((bT z::w).length:Nat):Int)=4:=bZ b1
   refine ⟨⟨hv,show (4:Int)≤(((bT z::w).length:Nat):Int) from by omega⟩,?_⟩
   cases hh:lX (cQ 4 (bT z::w))
   ·exact cH (by unfold cI;rw [if_neg a1,if_neg a2,if_pos a3,if_neg (λc=>c f1),if_neg (λc=>c g1),hh];rfl) (by decide)
   ·exact gq (by unfold cI;rw [if_neg a1,if_neg a2,if_pos a3,if_neg (λc=>c f1),if_neg (λc=>c g1),hh];rfl) (by unfold kD;rw [if_neg a1,if_neg a2,if_pos a3];rfl) (dJ hx _ _)
  replace a3:=bB a3
  refine ak (λa4=> ?_) (λa4=> ?_)
  ·replace a4:=bM a4
   refine ak (λf1=> ?_) (λf1=> ?_)
   ·exact cH (by unfold cI;rw [if_neg a1,if_neg a2,if_neg a3,if_pos a4,if_pos (show ¬gR fl=128 from bX f1)]) (by decide)
   replace f1:gR fl=128:=bZ f1
   refine ak (λb1=> ?_) (λb1=> ?_)
   ·exact cH (by unfold cI;rw [if_neg a1,if_neg a2,if_neg a3,if_pos a4,if_neg (λc=>c f1),if_pos (show ¬(((bT z::w).length:Nat):Int)=4 from bX b1)]) (by decide)
   have g1:(((bT z::w).length:Nat):Int)=4:=bZ b1
   refine ⟨⟨hv,show (4:Int)≤(((bT z::w).length:Nat):Int) from by omega⟩,?_⟩
   obtain ⟨e1,e2⟩:=Ud hv g1
   have hw4:wrap .i64 (cQ 4 (bT z::w))=cQ 4 (bT z::w):=bE (by omega) (by omega)
   rw [hw4]
   exact gq (by unfold cI;rw [if_neg a1,if_neg a2,if_neg a3,if_pos a4,if_neg (λc=>c f1),if_neg (λc=>c g1)]) (by unfold kD;rw [if_neg a1,if_neg a2,if_neg a3,if_pos a4];rfl) (dJ hx _ _)
  replace a4:=bB a4
  refine ak (λa5=> ?_) (λa5=> ?_)
  ·exact cH (by unfold cI;rw [if_neg a1,if_neg a2,if_neg a3,if_neg a4,show DV fl=true from a5];rfl) (by decide)
  ·exact gq (by unfold cI;rw [if_neg a1,if_neg a2,if_neg a3,if_neg a4,show DV fl=false from a5];rfl) (by unfold kD;rw [if_neg a1,if_neg a2,if_neg a3,if_neg a4];rfl) (dJ hx _ _)
theorem Ue {z:Int}(h0:0≤z)(h1:z<4294967296):wrap .u32 z=z:=by
 simp only [wrap,IntKind.bits,signed];simp;omega
theorem XF {v:Bs}(hv:IsB v)(hl:(v.length:Int)=1):0≤cQ 1 v∧cQ 1 v<256:=by
 cases v with
 |nil=>simp at hl
 |cons r w=>
  obtain ⟨z,rfl,hz0,hz1⟩:=hv.at (j:=0) (r:=r) rfl
  rw [Xc];exact ⟨hz0,hz1⟩
theorem Wt:bk prog ah (aI [(jc,wE),(mI,xT),(BZ,wD)]):=aQ λp hp=>by
 rcases mem_cons.1 hp with rfl | hp;exact FY λ_ h=>T8 h
 rcases mem_cons.1 hp with rfl | hp;exact Da
 obtain rfl:=mem_singleton.1 hp;exact FX Ni
theorem Q3 (o h m fl t:Int)(hm:Bool){x:TV}(hx:∀f g,x.ren f g=x){v:Bs}(hv:IsB v):VCx prog ah 0 H9 [.ptr 0 0,ik fl t v] ⟨[lY o h m hm x],[]⟩ (t9 o h m hm x fl t v):=by
 refine VCx.keepQ 1 0 (le_refl _) (le_refl _) (aj ag ac Wt ai (Uc o h m fl t hm x v _) ?_)
 have hsm:=hv.small
 refine ak (λa=> ?_) (λa1=> ?_)
 ·replace a:=bM a
  refine ak (λf1=> ?_) (λf1=> ?_)
  ·exact cH (by unfold cI;rw [if_pos a,if_pos (show ¬gR fl=64 from bX f1)]) (by decide)
  replace f1:gR fl=64:=bZ f1
  refine ak (λb1=> ?_) (λb1=> ?_)
  ·exact cH (by unfold cI;rw [if_pos a,if_neg (λc=>c f1),if_pos (show ¬(v.length:Int)=1 from bX b1)]) (by decide)
  replace b1:(v.length:Int)=1:=bZ b1
  refine ⟨⟨hv,hv.small,⟨by decide,by decide⟩,rfl⟩,?_⟩
  refine ak (λ_=> ?_) (λc=>absurd a (bB c))
  have hr:fP 1 v=cQ 1 v:=by unfold fP AI;rw [decide_eq_true (show (1:Int)≤v.length by omega)];rfl
  have hg:=XF hv b1
  rw [hr]
  refine ak (λb2=> ?_) (λb2=> ?_)
  ·exact cH (by unfold cI;rw [if_pos a,if_neg (λc=>c f1),if_neg (λc=>c b1),if_pos (of_decide_eq_true b2)]) (by decide)
  ·rw [bE (z:=cQ 1 v) (by omega) (by omega)]
   exact gq (by unfold cI;rw [if_pos a,if_neg (λc=>c f1),if_neg (λc=>c b1),if_neg (of_decide_eq_false b2)]) (by unfold kD;rw [if_pos a];rfl) (dJ hx _ _)
 replace a1:=bB a1
 refine ak (λa=> ?_) (λa3=> ?_)
 ·replace a:=bM a
  have a1:¬t=1:=by omega
  have a2:¬t=2:=by omega
  refine ak (λf1=> ?_) (λf1=> ?_)
  ·exact cH (by unfold cI;rw [if_neg a1,if_neg a2,if_pos a,if_pos (show ¬gR fl=64 from bX f1)]) (by decide)
  replace f1:gR fl=64:=bZ f1
  refine ak (λb1=> ?_) (λb1=> ?_)
  ·exact cH (by unfold cI;rw [if_neg a1,if_neg a2,if_pos a,if_neg (λc=>c f1),if_pos (show ¬(v.length:Int)=4 from bX b1)]) (by decide)
  replace b1:(v.length:Int)=4:=bZ b1
  refine ⟨⟨hv,hv.small,⟨by decide,by decide⟩,rfl⟩,?_⟩
  refine ak (λc=>absurd (bM c) (by omega)) (λ_=> ?_)
  refine ak (λc=>absurd (bM c) (by omega)) (λ_=> ?_)
  refine ak (λ_=> ?_) (λc=>absurd a (bB c))
  have hr:fP 4 v=cQ 4 v:=by unfold fP AI;rw [decide_eq_true (show (4:Int)≤v.length by omega)];rfl
  have hg:=Ud hv b1
  rw [hr]
  have hw:wrap .u32 (cQ 4 v)=cQ 4 v:=Ue hg.1 hg.2
  rw [hw]
  cases hh:lX (cQ 4 v)
  ·exact cH (by unfold cI;rw [if_neg a1,if_neg a2,if_pos a,if_neg (λc=>c f1),if_neg (λc=>c b1),hh];rfl) (by decide)
  ·exact gq (by unfold cI;rw [if_neg a1,if_neg a2,if_pos a,if_neg (λc=>c f1),if_neg (λc=>c b1),hh];rfl) (by unfold kD;rw [if_neg a1,if_neg a2,if_pos a];rfl) (dJ hx _ _)
 replace a3:=bB a3
 refine ak (λa=> ?_) (λa4=> ?_)
 ·replace a:=bM a
  have a1:¬t=1:=by omega
  have a2:¬t=2:=by omega
  have a3:¬t=3:=by omega
  refine ak (λf1=> ?_) (λf1=> ?_)
  ·exact cH (by unfold cI;rw [if_neg a1,if_neg a2,if_neg a3,if_pos a,if_pos (show ¬gR fl=128 from bX f1)]) (by decide)
  replace f1:gR fl=128:=bZ f1
  refine ak (λb1=> ?_) (λb1=> ?_)
  ·exact cH (by unfold cI;rw [if_neg a1,if_neg a2,if_neg a3,if_pos a,if_neg (λc=>c f1),if_pos (show ¬(v.length:Int)=4 from bX b1)]) (by decide)
  replace b1:(v.length:Int)=4:=bZ b1
  refine ⟨⟨hv,hv.small,⟨by decide,by decide⟩,rfl⟩,?_⟩
  refine ak (λc=>absurd (bM c) (by omega)) (λ_=> ?_)
  refine ak (λc=>absurd (bM c) (by omega)) (λ_=> ?_)
  refine ak (λc=>absurd (bM c) (by omega)) (λ_=> ?_)
  refine ak (λ_=> ?_) (λc=>absurd a (bB c))
  have hr:fP 4 v=cQ 4 v:=by unfold fP AI;rw [decide_eq_true (show (4:Int)≤v.length by omega)];rfl
  have hg:=Ud hv b1
  rw [hr]
  rw [bE (z:=cQ 4 v) (by omega) (by omega)]
  exact gq (by unfold cI;rw [if_neg a1,if_neg a2,if_neg a3,if_pos a,if_neg (λc=>c f1),if_neg (λc=>c b1)]) (by unfold kD;rw [if_neg a1,if_neg a2,if_neg a3,if_pos a];rfl) (dJ hx _ _)
 replace a4:=bB a4
 refine ak (λa=> ?_) (λa2=> ?_)
 ·replace a:=bM a
  have a1:¬t=1:=by omega
  refine ak (λf1=> ?_) (λf1=> ?_)
  ·exact cH (by unfold cI;rw [if_neg a1,if_pos a,if_pos (show ¬gR fl=64 from bX f1)]) (by decide)
  replace f1:gR fl=64:=bZ f1
  refine ⟨⟨hv,hv.small,⟨by decide,by decide⟩,rfl⟩,?_⟩
  refine ak (λc=>absurd (bM c) (by omega)) (λ_=> ?_)
  refine ak (λ_=> ?_) (λc=>absurd a (bB c))
  refine ⟨hv,?_⟩
  cases hh:lr v
  ·exact cH (by unfold cI;rw [if_neg a1,if_pos a,if_neg (λc=>c f1),hh];rfl) (by decide)
  ·exact gq (by unfold cI;rw [if_neg a1,if_pos a,if_neg (λc=>c f1),hh];rfl) (by unfold kD;rw [if_neg a1,if_pos a];rfl) (dJ (sx _) _ _)
 replace a2:=bB a2
 refine ak (λa5=> ?_) (λa5=> ?_)
 ·exact cH (by unfold cI;rw [if_neg a1,if_neg a2,if_neg a3,if_neg a4,show DV fl=true from a5];rfl) (by decide)
 ·exact gq (by unfold cI;rw [if_neg a1,if_neg a2,if_neg a3,if_neg a4,show DV fl=false from a5];rfl) (by unfold kD;rw [if_neg a1,if_neg a2,if_neg a3,if_neg a4];rfl) (dJ hx _ _)
section
variable {P:Program}{G:aV}
theorem Ff {ro:Nat}{T:VT}{t e tx:TypeId}{s x:Operand}{l:List (Nat × TV)}{inf:TypeInfo}{z:Value}{q0:List TV}{qs:List (List TV)}{tok:Tok}{id n:Nat}{cs:List TV}(ht:P.underlying t=some (.slice e))(hi:P.info? e=some inf)(hz:inf.zero=some z)(hzs:z.cells.size=inf.size)(hz1:z.cells.toList.all oneCell'=true)
  (hsl:gk (P.underlying tx)=true) (hs:aL G l s=.row inf.size id 0 n) (ho:T.objs[id]?=some (.row cs)) (hro:ro≤id) (hn:n*inf.size≤cs.length) (hx:aL G l x=.vec inf.size (q0::qs) tok) (hb:(n+(q0::qs).length)*(inf.bytes+1)≤140737488355328):
  br P G ro T (.call ⟨.builtin .append,#[s,x],#[t,tx]⟩) l (.row inf.size T.objs.length 0 (n+(q0::qs).length)) ((T.kill id).newRow (cs.take (n*inf.size)++(q0::qs).flatten)):=by
 refine .mk ?_
 have h1:bu P (.call ⟨.builtin .append,#[s,x],#[t,tx]⟩) (aL G l)=none:=by simp [bu,eJ]
 have h2:bs P T (.call ⟨.builtin .append,#[s,x],#[t,tx]⟩) (aL G l)=none:=by simp [bs,dV,jq]
 have hr:cd T inf.size (.vec inf.size (q0::qs) tok)=some (q0::qs):=by simp [cd,beq_refl]
 have h4:lG P T t tx (.row inf.size id 0 n) (.vec inf.size (q0::qs) tok)=none:=by simp [lG,ht]
 have h3:lF P ro T t tx (.row inf.size id 0 n) (.vec inf.size (q0::qs) tok)=some (.row inf.size T.objs.length 0 (n+(q0::qs).length),(T.kill id).newRow (cs.take (n*inf.size)++(q0::qs).flatten)):=by
  unfold lF
  simp only [ht,hi,hz,hr,hzs,decide_true,hz1,hsl,Bool.and_self,cond_true,beq_refl,ho,Nat.ble_eq_true_of_le hro,Nat.ble_eq_true_of_le hn,Nat.ble_eq_true_of_le hb]
 have h5:rQ P ro T t tx (.row inf.size id 0 n) (.vec inf.size (q0::qs) tok)=none:=rfl
 simp only [gH,h1,h2,lH,hs,hx,hsl,h4,h5,h3,cond_true]
end
abbrev wF:=119
abbrev wG:=126
def OF (W:List TV)(T:VT):VT:=(T.kill (T.objs.length-1)).newRow ((match T.objs[T.objs.length-1]? with
 |some (.row cs)=>cs
 |_=> [])++W)
theorem Q4 (fl t:Int)(Q:TV→VT→Prop):au prog ah aZ (bc [(999999,.dead,none)]) 300 aG 0 wF [ik fl t []] ⟨[],[]⟩ Q=
 (bif aq neq (aT (Value.int i64 (wrap i64 (↑(toNat (ofInt (IntKind.bits i64) fl&&&ofInt (IntKind.bits i64) (16:Int))):Int))) (Value.int i64 (0:Int)))
 then Q (.row 1 7 0 4) ⟨[(.cells [(.val (.int .i64 (fl))),(.val (.int .i64 (t))),(.vec 1 [] .none)]),.gone,(.row [(.val (.int .u8 (wrap u8 (fdiv (wrap u64 fl) ((2:Int)^min (Int.toNat (wrap i64 ((8:Int)*wrap i64 ((1:Int)-(1:Int))))) (IntKind.bits u64))))))]),.gone,(.row [(.val (.int .u8 (wrap u8 (fdiv (wrap u64 fl) ((2:Int)^min (Int.toNat (wrap i64 ((8:Int)*wrap i64 ((1:Int)-(1:Int))))) (IntKind.bits u64)))))),(.val (.int .u8 (wrap u8 (fdiv (wrap u64 t) ((2:Int)^min (Int.toNat (wrap i64 ((8:Int)*wrap i64 ((1:Int)-(1:Int))))) (IntKind.bits u64))))))]),.gone,.gone,(.row [(.val (.int .u8 (wrap u8 (fdiv (wrap u64 fl) ((2:Int)^min (Int.toNat (wrap i64 ((8:Int)*wrap i64 ((1:Int)-(1:Int))))) (IntKind.bits u64)))))),(.val (.int .u8 (wrap u8 (fdiv (wrap u64 t) ((2:Int)^min (Int.toNat (wrap i64 ((8:Int)*wrap i64 ((1:Int)-(1:Int))))) (IntKind.bits u64)))))),(.val (.int .u8 0)),(.val (.int .u8 0))])],[]⟩
 else Q (.row 1 6 0 3) ⟨[(.cells [(.val (.int .i64 (fl))),(.val (.int .i64 (t))),(.vec 1 [] .none)]),.gone,(.row [(.val (.int .u8 (wrap u8 (fdiv (wrap u64 fl) ((2:Int)^min (Int.toNat (wrap i64 ((8:Int)*wrap i64 ((1:Int)-(1:Int))))) (IntKind.bits u64))))))]),.gone,(.row [(.val (.int .u8 (wrap u8 (fdiv (wrap u64 fl) ((2:Int)^min (Int.toNat (wrap i64 ((8:Int)*wrap i64 ((1:Int)-(1:Int))))) (IntKind.bits u64)))))),(.val (.int .u8 (wrap u8 (fdiv (wrap u64 t) ((2:Int)^min (Int.toNat (wrap i64 ((8:Int)*wrap i64 ((1:Int)-(1:Int))))) (IntKind.bits u64))))))]),.gone,(.row [(.val (.int .u8 (wrap u8 (fdiv (wrap u64 fl) ((2:Int)^min (Int.toNat (wrap i64 ((8:Int)*wrap i64 ((1:Int)-(1:Int))))) (IntKind.bits u64)))))),(.val (.int .u8 (wrap u8 (fdiv (wrap u64 t) ((2:Int)^min (Int.toNat (wrap i64 ((8:Int)*wrap i64 ((1:Int)-(1:Int))))) (IntKind.bits u64)))))),(.val (.int .u8 0))])],[]⟩):=by kernel_rfl
theorem Uf (fl t:Int)(v w:Bs)(W:List TV)(K N:Nat)(Q:TV→VT→Prop):au prog ah aZ (bc [(999999,.dead,none),(33,.vec 1 w .none,none),(34,.row 1 K 0 N,some (OF W))]) 300 aG 0 wF [ik fl t v] ⟨[],[]⟩ Q=
 (bif aq neq (aT (Value.int i64 (wrap i64 (↑(toNat (ofInt (IntKind.bits i64) fl&&&ofInt (IntKind.bits i64) (16:Int))):Int))) (Value.int i64 (0:Int)))
 then (ba prog (λ_=>.none) (.slice 22 (.tmp 31) .none (.some (.tmp 32)) .none) [(31,(.vec 1 (v) .none)),(32,(.val (.int .i64 (if (65535:Int)<(↑(length v):Int) then (65535:Int) else (↑(length v):Int)))))] (.vec 1 (w) .none)∧
 (br prog (λ_=>.none) 0 ⟨[(.cells [(.val (.int .i64 (fl))),(.val (.int .i64 (t))),(.vec 1 (v) .none)]),.gone,(.row [(.val (.int .u8 (wrap u8 (fdiv (wrap u64 fl) ((2:Int)^min (Int.toNat (wrap i64 ((8:Int)*wrap i64 ((1:Int)-(1:Int))))) (IntKind.bits u64))))))]),.gone,(.row [(.val (.int .u8 (wrap u8 (fdiv (wrap u64 fl) ((2:Int)^min (Int.toNat (wrap i64 ((8:Int)*wrap i64 ((1:Int)-(1:Int))))) (IntKind.bits u64)))))),(.val (.int .u8 (wrap u8 (fdiv (wrap u64 t) ((2:Int)^min (Int.toNat (wrap i64 ((8:Int)*wrap i64 ((1:Int)-(1:Int))))) (IntKind.bits u64))))))]),.gone,.gone,(.row [(.val (.int .u8 (wrap u8 (fdiv (wrap u64 fl) ((2:Int)^min (Int.toNat (wrap i64 ((8:Int)*wrap i64 ((1:Int)-(1:Int))))) (IntKind.bits u64)))))),(.val (.int .u8 (wrap u8 (fdiv (wrap u64 t) ((2:Int)^min (Int.toNat (wrap i64 ((8:Int)*wrap i64 ((1:Int)-(1:Int))))) (IntKind.bits u64)))))),(.val (.int .u8 (wrap u8 (fdiv (wrap u64 (if (65535:Int)<(↑(length v):Int) then (65535:Int) else (↑(length v):Int))) ((2:Int)^min (Int.toNat (wrap i64 ((8:Int)*wrap i64 ((2:Int)-(1:Int))))) (IntKind.bits u64)))))),(.val (.int .u8 (wrap u8 (fdiv (wrap u64 (if (65535:Int)<(↑(length v):Int) then (65535:Int) else (↑(length v):Int))) ((2:Int)^min (Int.toNat (wrap i64 ((8:Int)*wrap i64 (wrap i64 ((2:Int)-(1:Int))-(1:Int))))) (IntKind.bits u64))))))])],[]⟩ (.call ⟨(.builtin .append),#[(.tmp 29),(.tmp 33)],#[22,22]⟩) [(29,(.row 1 7 0 4)),(33,(.vec 1 (w) .none))] (.row 1 (K) 0 (N)) ⟨[(.cells [(.val (.int .i64 (fl))),(.val (.int .i64 (t))),(.vec 1 (v) .none)]),.gone,(.row [(.val (.int .u8 (wrap u8 (fdiv (wrap u64 fl) ((2:Int)^min (Int.toNat (wrap i64 ((8:Int)*wrap i64 ((1:Int)-(1:Int))))) (IntKind.bits u64))))))]),.gone,(.row [(.val (.int .u8 (wrap u8 (fdiv (wrap u64 fl) ((2:Int)^min (Int.toNat (wrap i64 ((8:Int)*wrap i64 ((1:Int)-(1:Int))))) (IntKind.bits u64)))))),(.val (.int .u8 (wrap u8 (fdiv (wrap u64 t) ((2:Int)^min (Int.toNat (wrap i64 ((8:Int)*wrap i64 ((1:Int)-(1:Int))))) (IntKind.bits u64))))))]),.gone,.gone,.gone,(.row ([(.val (.int .u8 (wrap u8 (fdiv (wrap u64 fl) ((2:Int)^min (Int.toNat (wrap i64 ((8:Int)*wrap i64 ((1:Int)-(1:Int))))) (IntKind.bits u64)))))),(.val (.int .u8 (wrap u8 (fdiv (wrap u64 t) ((2:Int)^min (Int.toNat (wrap i64 ((8:Int)*wrap i64 ((1:Int)-(1:Int))))) (IntKind.bits u64)))))),(.val (.int .u8 (wrap u8 (fdiv (wrap u64 (if (65535:Int)<(↑(length v):Int) then (65535:Int) else (↑(length v):Int))) ((2:Int)^min (Int.toNat (wrap i64 ((8:Int)*wrap i64 ((2:Int)-(1:Int))))) (IntKind.bits u64)))))),(.val (.int .u8 (wrap u8 (fdiv (wrap u64 (if (65535:Int)<(↑(length v):Int) then (65535:Int) else (↑(length v):Int))) ((2:Int)^min (Int.toNat (wrap i64 ((8:Int)*wrap i64 (wrap i64 ((2:Int)-(1:Int))-(1:Int))))) (IntKind.bits u64))))))]++W))],[]⟩∧
 Q (.row 1 (K) 0 (N)) ⟨[(.cells [(.val (.int .i64 (fl))),(.val (.int .i64 (t))),(.vec 1 (v) .none)]),.gone,(.row [(.val (.int .u8 (wrap u8 (fdiv (wrap u64 fl) ((2:Int)^min (Int.toNat (wrap i64 ((8:Int)*wrap i64 ((1:Int)-(1:Int))))) (IntKind.bits u64))))))]),.gone,(.row [(.val (.int .u8 (wrap u8 (fdiv (wrap u64 fl) ((2:Int)^min (Int.toNat (wrap i64 ((8:Int)*wrap i64 ((1:Int)-(1:Int))))) (IntKind.bits u64)))))),(.val (.int .u8 (wrap u8 (fdiv (wrap u64 t) ((2:Int)^min (Int.toNat (wrap i64 ((8:Int)*wrap i64 ((1:Int)-(1:Int))))) (IntKind.bits u64))))))]),.gone,.gone,.gone,(.row ([(.val (.int .u8 (wrap u8 (fdiv (wrap u64 fl) ((2:Int)^min (Int.toNat (wrap i64 ((8:Int)*wrap i64 ((1:Int)-(1:Int))))) (IntKind.bits u64)))))),(.val (.int .u8 (wrap u8 (fdiv (wrap u64 t) ((2:Int)^min (Int.toNat (wrap i64 ((8:Int)*wrap i64 ((1:Int)-(1:Int))))) (IntKind.bits u64)))))),(.val (.int .u8 (wrap u8 (fdiv (wrap u64 (if (65535:Int)<(↑(length v):Int) then (65535:Int) else (↑(length v):Int))) ((2:Int)^min (Int.toNat (wrap i64 ((8:Int)*wrap i64 ((2:Int)-(1:Int))))) (IntKind.bits u64)))))),(.val (.int .u8 (wrap u8 (fdiv (wrap u64 (if (65535:Int)<(↑(length v):Int) then (65535:Int) else (↑(length v):Int))) ((2:Int)^min (Int.toNat (wrap i64 ((8:Int)*wrap i64 (wrap i64 ((2:Int)-(1:Int))-(1:Int))))) (IntKind.bits u64))))))]++W))],[]⟩))
 else (ba prog (λ_=>.none) (.slice 22 (.tmp 31) .none (.some (.tmp 32)) .none) [(31,(.vec 1 (v) .none)),(32,(.val (.int .i64 (if (255:Int)<(↑(length v):Int) then (255:Int) else (↑(length v):Int)))))] (.vec 1 (w) .none)∧
 (br prog (λ_=>.none) 0 ⟨[(.cells [(.val (.int .i64 (fl))),(.val (.int .i64 (t))),(.vec 1 (v) .none)]),.gone,(.row [(.val (.int .u8 (wrap u8 (fdiv (wrap u64 fl) ((2:Int)^min (Int.toNat (wrap i64 ((8:Int)*wrap i64 ((1:Int)-(1:Int))))) (IntKind.bits u64))))))]),.gone,(.row [(.val (.int .u8 (wrap u8 (fdiv (wrap u64 fl) ((2:Int)^min (Int.toNat (wrap i64 ((8:Int)*wrap i64 ((1:Int)-(1:Int))))) (IntKind.bits u64)))))),(.val (.int .u8 (wrap u8 (fdiv (wrap u64 t) ((2:Int)^min (Int.toNat (wrap i64 ((8:Int)*wrap i64 ((1:Int)-(1:Int))))) (IntKind.bits u64))))))]),.gone,(.row [(.val (.int .u8 (wrap u8 (fdiv (wrap u64 fl) ((2:Int)^min (Int.toNat (wrap i64 ((8:Int)*wrap i64 ((1:Int)-(1:Int))))) (IntKind.bits u64)))))),(.val (.int .u8 (wrap u8 (fdiv (wrap u64 t) ((2:Int)^min (Int.toNat (wrap i64 ((8:Int)*wrap i64 ((1:Int)-(1:Int))))) (IntKind.bits u64)))))),(.val (.int .u8 (wrap u8 (fdiv (wrap u64 (if (255:Int)<(↑(length v):Int) then (255:Int) else (↑(length v):Int))) ((2:Int)^min (Int.toNat (wrap i64 ((8:Int)*wrap i64 ((1:Int)-(1:Int))))) (IntKind.bits u64))))))])],[]⟩ (.call ⟨(.builtin .append),#[(.tmp 29),(.tmp 33)],#[22,22]⟩) [(29,(.row 1 6 0 3)),(33,(.vec 1 (w) .none))] (.row 1 (K) 0 (N)) ⟨[(.cells [(.val (.int .i64 (fl))),(.val (.int .i64 (t))),(.vec 1 (v) .none)]),.gone,(.row [(.val (.int .u8 (wrap u8 (fdiv (wrap u64 fl) ((2:Int)^min (Int.toNat (wrap i64 ((8:Int)*wrap i64 ((1:Int)-(1:Int))))) (IntKind.bits u64))))))]),.gone,(.row [(.val (.int .u8 (wrap u8 (fdiv (wrap u64 fl) ((2:Int)^min (Int.toNat (wrap i64 ((8:Int)*wrap i64 ((1:Int)-(1:Int))))) (IntKind.bits u64)))))),(.val (.int .u8 (wrap u8 (fdiv (wrap u64 t) ((2:Int)^min (Int.toNat (wrap i64 ((8:Int)*wrap i64 ((1:Int)-(1:Int))))) (IntKind.bits u64))))))]),.gone,.gone,(.row ([(.val (.int .u8 (wrap u8 (fdiv (wrap u64 fl) ((2:Int)^min (Int.toNat (wrap i64 ((8:Int)*wrap i64 ((1:Int)-(1:Int))))) (IntKind.bits u64)))))),(.val (.int .u8 (wrap u8 (fdiv (wrap u64 t) ((2:Int)^min (Int.toNat (wrap i64 ((8:Int)*wrap i64 ((1:Int)-(1:Int))))) (IntKind.bits u64)))))),(.val (.int .u8 (wrap u8 (fdiv (wrap u64 (if (255:Int)<(↑(length v):Int) then (255:Int) else (↑(length v):Int))) ((2:Int)^min (Int.toNat (wrap i64 ((8:Int)*wrap i64 ((1:Int)-(1:Int))))) (IntKind.bits u64))))))]++W))],[]⟩∧
 Q (.row 1 (K) 0 (N)) ⟨[(.cells [(.val (.int .i64 (fl))),(.val (.int .i64 (t))),(.vec 1 (v) .none)]),.gone,(.row [(.val (.int .u8 (wrap u8 (fdiv (wrap u64 fl) ((2:Int)^min (Int.toNat (wrap i64 ((8:Int)*wrap i64 ((1:Int)-(1:Int))))) (IntKind.bits u64))))))]),.gone,(.row [(.val (.int .u8 (wrap u8 (fdiv (wrap u64 fl) ((2:Int)^min (Int.toNat (wrap i64 ((8:Int)*wrap i64 ((1:Int)-(1:Int))))) (IntKind.bits u64)))))),(.val (.int .u8 (wrap u8 (fdiv (wrap u64 t) ((2:Int)^min (Int.toNat (wrap i64 ((8:Int)*wrap i64 ((1:Int)-(1:Int))))) (IntKind.bits u64))))))]),.gone,.gone,(.row ([(.val (.int .u8 (wrap u8 (fdiv (wrap u64 fl) ((2:Int)^min (Int.toNat (wrap i64 ((8:Int)*wrap i64 ((1:Int)-(1:Int))))) (IntKind.bits u64)))))),(.val (.int .u8 (wrap u8 (fdiv (wrap u64 t) ((2:Int)^min (Int.toNat (wrap i64 ((8:Int)*wrap i64 ((1:Int)-(1:Int))))) (IntKind.bits u64)))))),(.val (.int .u8 (wrap u8 (fdiv (wrap u64 (if (255:Int)<(↑(length v):Int) then (255:Int) else (↑(length v):Int))) ((2:Int)^min (Int.toNat (wrap i64 ((8:Int)*wrap i64 ((1:Int)-(1:Int))))) (IntKind.bits u64))))))]++W))],[]⟩))):=by kernel_rfl
theorem Q5 (fl t:Int)(Q:TV→VT→Prop):au prog ah aZ (bc [(999999,.dead,none)]) 300 aG 0 wG [ik fl t []] ⟨[],[]⟩ Q=
 (bif aq neq (aT (Value.int i64 (wrap i64 (↑(toNat (ofInt (IntKind.bits i64) fl&&&ofInt (IntKind.bits i64) (16:Int))):Int))) (Value.int i64 (0:Int)))
 then Q (.row 1 3 0 4) ⟨[(.cells [(.val (.int .i64 (fl))),(.val (.int .i64 (t))),(.vec 1 [] .none)]),.gone,.gone,(.row [(.val (.int .u8 (wrap u8 fl))),(.val (.int .u8 (wrap u8 t))),(.val (.int .u8 0)),(.val (.int .u8 0))])],[]⟩
 else Q (.row 1 1 0 3) ⟨[(.cells [(.val (.int .i64 (fl))),(.val (.int .i64 (t))),(.vec 1 [] .none)]),(.row [(.val (.int .u8 (wrap u8 fl))),(.val (.int .u8 (wrap u8 t))),(.val (.int .u8 0))])],[]⟩):=by kernel_rfl
theorem Ug (fl t:Int)(v w:Bs)(W:List TV)(K N:Nat)(Q:TV→VT→Prop):au prog ah aZ (bc [(999999,.dead,none),(22,.vec 1 w .none,none),(32,.vec 1 w .none,none),(41,.row 1 K 0 N,some (OF W))]) 300 aG 0 wG [ik fl t v] ⟨[],[]⟩ Q=
 (bif aq neq (aT (Value.int i64 (wrap i64 (↑(toNat (ofInt (IntKind.bits i64) fl&&&ofInt (IntKind.bits i64) (16:Int))):Int))) (Value.int i64 (0:Int)))
 then (bif decide ((↑(length v):Int)>(65535:Int))
 then (ba prog (λ_=>.none) (.slice 22 (.tmp 21) .none (.some (.const (.int .i64 65535))) .none) [(21,(.vec 1 (v) .none))] (.vec 1 (w) .none)∧
 (br prog (λ_=>.none) 0 ⟨[(.cells [(.val (.int .i64 (fl))),(.val (.int .i64 (t))),(.vec 1 (v) .none)]),.gone,.gone,(.row [(.val (.int .u8 (wrap u8 fl))),(.val (.int .u8 (wrap u8 t))),(.val (.int .u8 (wrap u8 (fdiv (wrap u64 (↑(length w):Int)) ((2:Int)^min (Int.toNat (wrap u64 (wrap i64 ((8:Int)*wrap i64 ((2:Int)-(1:Int)))))) (IntKind.bits u64)))))),(.val (.int .u8 (wrap u8 (fdiv (wrap u64 (↑(length w):Int)) ((2:Int)^min (Int.toNat (wrap u64 (wrap i64 ((8:Int)*wrap i64 (wrap i64 ((2:Int)-(1:Int))-(1:Int)))))) (IntKind.bits u64))))))])],[]⟩ (.call ⟨(.builtin .append),#[(.tmp 39),(.tmp 40)],#[22,22]⟩) [(39,(.row 1 3 0 4)),(40,(.vec 1 (w) .none))] (.row 1 (K) 0 (N)) ⟨[(.cells [(.val (.int .i64 (fl))),(.val (.int .i64 (t))),(.vec 1 (v) .none)]),.gone,.gone,.gone,(.row ([(.val (.int .u8 (wrap u8 fl))),(.val (.int .u8 (wrap u8 t))),(.val (.int .u8 (wrap u8 (fdiv (wrap u64 (↑(length w):Int)) ((2:Int)^min (Int.toNat (wrap u64 (wrap i64 ((8:Int)*wrap i64 ((2:Int)-(1:Int)))))) (IntKind.bits u64)))))),(.val (.int .u8 (wrap u8 (fdiv (wrap u64 (↑(length w):Int)) ((2:Int)^min (Int.toNat (wrap u64 (wrap i64 ((8:Int)*wrap i64 (wrap i64 ((2:Int)-(1:Int))-(1:Int)))))) (IntKind.bits u64))))))]++W))],[]⟩∧
 Q (.row 1 (K) 0 (N)) ⟨[(.cells [(.val (.int .i64 (fl))),(.val (.int .i64 (t))),(.vec 1 (v) .none)]),.gone,.gone,.gone,(.row ([(.val (.int .u8 (wrap u8 fl))),(.val (.int .u8 (wrap u8 t))),(.val (.int .u8 (wrap u8 (fdiv (wrap u64 (↑(length w):Int)) ((2:Int)^min (Int.toNat (wrap u64 (wrap i64 ((8:Int)*wrap i64 ((2:Int)-(1:Int)))))) (IntKind.bits u64)))))),(.val (.int .u8 (wrap u8 (fdiv (wrap u64 (↑(length w):Int)) ((2:Int)^min (Int.toNat (wrap u64 (wrap i64 ((8:Int)*wrap i64 (wrap i64 ((2:Int)-(1:Int))-(1:Int)))))) (IntKind.bits u64))))))]++W))],[]⟩))
 else (br prog (λ_=>.none) 0 ⟨[(.cells [(.val (.int .i64 (fl))),(.val (.int .i64 (t))),(.vec 1 (v) .none)]),.gone,.gone,(.row [(.val (.int .u8 (wrap u8 fl))),(.val (.int .u8 (wrap u8 t))),(.val (.int .u8 (wrap u8 (fdiv (wrap u64 (↑(length v):Int)) ((2:Int)^min (Int.toNat (wrap u64 (wrap i64 ((8:Int)*wrap i64 ((2:Int)-(1:Int)))))) (IntKind.bits u64)))))),(.val (.int .u8 (wrap u8 (fdiv (wrap u64 (↑(length v):Int)) ((2:Int)^min (Int.toNat (wrap u64 (wrap i64 ((8:Int)*wrap i64 (wrap i64 ((2:Int)-(1:Int))-(1:Int)))))) (IntKind.bits u64))))))])],[]⟩ (.call ⟨(.builtin .append),#[(.tmp 39),(.tmp 40)],#[22,22]⟩) [(39,(.row 1 3 0 4)),(40,(.vec 1 (v) .none))] (.row 1 (K) 0 (N)) ⟨[(.cells [(.val (.int .i64 (fl))),(.val (.int .i64 (t))),(.vec 1 (v) .none)]),.gone,.gone,.gone,(.row ([(.val (.int .u8 (wrap u8 fl))),(.val (.int .u8 (wrap u8 t))),(.val (.int .u8 (wrap u8 (fdiv (wrap u64 (↑(length v):Int)) ((2:Int)^min (Int.toNat (wrap u64 (wrap i64 ((8:Int)*wrap i64 ((2:Int)-(1:Int)))))) (IntKind.bits u64)))))),(.val (.int .u8 (wrap u8 (fdiv (wrap u64 (↑(length v):Int)) ((2:Int)^min (Int.toNat (wrap u64 (wrap i64 ((8:Int)*wrap i64 (wrap i64 ((2:Int)-(1:Int))-(1:Int)))))) (IntKind.bits u64))))))]++W))],[]⟩∧
 Q (.row 1 (K) 0 (N)) ⟨[(.cells [(.val (.int .i64 (fl))),(.val (.int .i64 (t))),(.vec 1 (v) .none)]),.gone,.gone,.gone,(.row ([(.val (.int .u8 (wrap u8 fl))),(.val (.int .u8 (wrap u8 t))),(.val (.int .u8 (wrap u8 (fdiv (wrap u64 (↑(length v):Int)) ((2:Int)^min (Int.toNat (wrap u64 (wrap i64 ((8:Int)*wrap i64 ((2:Int)-(1:Int)))))) (IntKind.bits u64)))))),(.val (.int .u8 (wrap u8 (fdiv (wrap u64 (↑(length v):Int)) ((2:Int)^min (Int.toNat (wrap u64 (wrap i64 ((8:Int)*wrap i64 (wrap i64 ((2:Int)-(1:Int))-(1:Int)))))) (IntKind.bits u64))))))]++W))],[]⟩))
 else (bif decide ((↑(length v):Int)>(255:Int))
 then (ba prog (λ_=>.none) (.slice 22 (.tmp 31) .none (.some (.const (.int .i64 255))) .none) [(31,(.vec 1 (v) .none))] (.vec 1 (w) .none)∧
 (br prog (λ_=>.none) 0 ⟨[(.cells [(.val (.int .i64 (fl))),(.val (.int .i64 (t))),(.vec 1 (v) .none)]),(.row [(.val (.int .u8 (wrap u8 fl))),(.val (.int .u8 (wrap u8 t))),(.val (.int .u8 (wrap u8 (↑(length w):Int))))])],[]⟩ (.call ⟨(.builtin .append),#[(.tmp 39),(.tmp 40)],#[22,22]⟩) [(39,(.row 1 1 0 3)),(40,(.vec 1 (w) .none))] (.row 1 (K) 0 (N)) ⟨[(.cells [(.val (.int .i64 (fl))),(.val (.int .i64 (t))),(.vec 1 (v) .none)]),.gone,(.row ([(.val (.int .u8 (wrap u8 fl))),(.val (.int .u8 (wrap u8 t))),(.val (.int .u8 (wrap u8 (↑(length w):Int))))]++W))],[]⟩∧
 Q (.row 1 (K) 0 (N)) ⟨[(.cells [(.val (.int .i64 (fl))),(.val (.int .i64 (t))),(.vec 1 (v) .none)]),.gone,(.row ([(.val (.int .u8 (wrap u8 fl))),(.val (.int .u8 (wrap u8 t))),(.val (.int .u8 (wrap u8 (↑(length w):Int))))]++W))],[]⟩))
 else (br prog (λ_=>.none) 0 ⟨[(.cells [(.val (.int .i64 (fl))),(.val (.int .i64 (t))),(.vec 1 (v) .none)]),(.row [(.val (.int .u8 (wrap u8 fl))),(.val (.int .u8 (wrap u8 t))),(.val (.int .u8 (wrap u8 (↑(length v):Int))))])],[]⟩ (.call ⟨(.builtin .append),#[(.tmp 39),(.tmp 40)],#[22,22]⟩) [(39,(.row 1 1 0 3)),(40,(.vec 1 (v) .none))] (.row 1 (K) 0 (N)) ⟨[(.cells [(.val (.int .i64 (fl))),(.val (.int .i64 (t))),(.vec 1 (v) .none)]),.gone,(.row ([(.val (.int .u8 (wrap u8 fl))),(.val (.int .u8 (wrap u8 t))),(.val (.int .u8 (wrap u8 (↑(length v):Int))))]++W))],[]⟩∧
 Q (.row 1 (K) 0 (N)) ⟨[(.cells [(.val (.int .i64 (fl))),(.val (.int .i64 (t))),(.vec 1 (v) .none)]),.gone,(.row ([(.val (.int .u8 (wrap u8 fl))),(.val (.int .u8 (wrap u8 t))),(.val (.int .u8 (wrap u8 (↑(length v):Int))))]++W))],[]⟩))):=by kernel_rfl
def bz (z:Int)(m:Nat):Int:=wrap .u8 (fdiv (wrap .u64 z) ((2:Int)^m))
def dt (fl:Int)(v:Bs):Int:=bif jF fl then (if (65535:Int)<(v.length:Int) then 65535 else v.length) else (if (255:Int)<(v.length:Int) then 255 else v.length)
def sX (fl t n:Int):Bs:=bif jF fl then [bT (bz fl 0),bT (bz t 0),bT (bz n 8),bT (bz n 0)] else [bT (bz fl 0),bT (bz t 0),bT (bz n 0)]
def eC (fl t:Int)(v:Bs):Bs:=sX fl t (dt fl v)++v.take (dt fl v).toNat
theorem Wu (z:Int):0≤wrap .u8 z∧wrap .u8 z<256:=by
 simp only [wrap,IntKind.bits,signed];simp;omega
theorem sy (z:Int)(m:Nat):0≤bz z m∧bz z m<256:=Wu _
theorem Kb (fl:Int)(v:Bs):0≤dt fl v∧(dt fl v).toNat≤v.length:=by
 unfold dt
 cases jF fl<;>simp only [cond_true,cond_false]<;>split<;>omega
theorem ma {fl t:Int}{v:Bs}(hv:IsB v)(hl:v.length≤28800000):IsB (eC fl t v):=by
 obtain ⟨⟨l,hl2,hz⟩,_⟩:=hv.take (dt fl v).toNat
 have h1:(v.take (dt fl v).toNat).length≤v.length:=by rw [length_take];omega
 unfold eC sX
 rw [hl2] at h1 ⊢
 cases jF fl
 ·refine ⟨⟨bz fl 0::bz t 0::bz (dt fl v) 0::l,rfl,λz hm=> ?_⟩,?_⟩
  ·rcases mem_cons.1 hm with rfl | hm;exact sy _ _
   rcases mem_cons.1 hm with rfl | hm;exact sy _ _
   rcases mem_cons.1 hm with rfl | hm;exact sy _ _
   exact hz z hm
  ·simp only [cond_false,length_append,length_cons,length_nil];omega
 ·refine ⟨⟨bz fl 0::bz t 0::bz (dt fl v) 8::bz (dt fl v) 0::l,rfl,λz hm=> ?_⟩,?_⟩
  ·rcases mem_cons.1 hm with rfl | hm;exact sy _ _
   rcases mem_cons.1 hm with rfl | hm;exact sy _ _
   rcases mem_cons.1 hm with rfl | hm;exact sy _ _
   rcases mem_cons.1 hm with rfl | hm;exact sy _ _
   exact hz z hm
  ·simp only [cond_true,length_append,length_cons,length_nil];omega
theorem VCx.rowB {f:FuncId}{xs:List TV}{es:Bs}(hes:IsB es)(h:VCx prog ah 0 f xs ⟨[],[]⟩ λx T'=>∃id off n,x=.row 1 id off n∧cd T' 1 (.row 1 id off n)=some es):VCx prog ah 0 f xs ⟨[],[]⟩ λx T'=>x=.vec 1 es .none∧T'=⟨[],[]⟩:=by
 refine VCx.keepQ 0 0 (le_refl _) (le_refl _) ((VCx.freeze (size:=1) (es:=es) (Q:=λ_=>True) (h.mono λx T' ⟨id,off,n,h1,h2⟩=>⟨id,off,n,h1,h2,trivial⟩)).mono ?_)
 rintro x T' ⟨rfl,_⟩
 exact ⟨by simp only [TV.ren,hes.ren,Tok.ren],rfl⟩
theorem Nj (fl t:Int):VCx prog ah 0 wF [ik fl t []] ⟨[],[]⟩ λx T'=>x=.vec 1 (eC fl t []) .none∧T'=⟨[],[]⟩:=by
 refine VCx.rowB (ma .nil (by simp)) (aj ag ac am ai (Q4 fl t _) ?_)
 refine ak (λhx=>⟨7,0,4,rfl,?_⟩) (λhx=>⟨6,0,3,rfl,?_⟩)
 ·have e:eC fl t []= [bT (bz fl 0),bT (bz t 0),bT (bz 0 8),bT (bz 0 0)]:=by
   unfold eC sX dt;rw [show jF fl=true from hx];rfl
  rw [e]
  exact dI (es:= [bT (bz fl 0),bT (bz t 0),bT (bz 0 8),bT (bz 0 0)]) (by kernel_rfl) (by intro e he;simp only [mem_cons,not_mem_nil,or_false] at he;rcases he with rfl | rfl | rfl | rfl<;>rfl)
 ·have e:eC fl t []= [bT (bz fl 0),bT (bz t 0),bT (bz 0 0)]:=by
   unfold eC sX dt;rw [show jF fl=false from hx];rfl
  rw [e]
  exact dI (es:= [bT (bz fl 0),bT (bz t 0),bT (bz 0 0)]) (by kernel_rfl) (by intro e he;simp only [mem_cons,not_mem_nil,or_false] at he;rcases he with rfl | rfl | rfl<;>rfl)
theorem mQ {T T':VT}{s x:Operand}{l:List (Nat × TV)}{q0:List TV}{qs:Bs}{tok:Tok}{id n:Nat}{cs:List TV}{y:TV}(hs:aL ah l s=.row 1 id 0 n)(ho:T.objs[id]?=some (.row cs))(hn:n≤cs.length)(hx:aL ah l x=.vec 1 (q0::qs) tok)(hb:n+(q0::qs).length≤64000001)
  (hy:TV.row 1 T.objs.length 0 (n+(q0::qs).length)=y) (hT:(T.kill id).newRow (cs.take n++(q0::qs).flatten)=T'):br prog ah 0 T (.call ⟨.builtin .append,#[s,x],#[22,22]⟩) l y T':=by
 obtain ⟨inf,i1,i2,i3,i4⟩:=dj
 have h:=Ff (inf:=inf) (P:=prog) (G:=ah) (ro:=0) (T:=T) (t:=22) (tx:=22) (s:=s) (x:=x) (l:=l) (q0:=q0) (qs:=qs) (tok:=tok) (id:=id) (n:=n) (cs:=cs) Tryz.underlying22 i1 i4 (by rw [i2];rfl) (by rfl) (by kernel_rfl) (by rw [i2];exact hs) ho (zero_le _) (by rw [i2];omega) (by rw [i2];exact hx) (by rw [i3];omega)
 rw [i2,Nat.mul_one,hy,hT] at h
 exact h
theorem FZ {fl:Int}{r:List TV}{v:Bs}:0<(dt fl (r::v)).toNat:=by
 unfold dt
 cases jF fl<;>simp only [cond_true,cond_false,length_cons]<;>split<;>omega
theorem Q6 (fl t:Int){r:List TV}{v:Bs}(hv:IsB (r::v))(hl:(r::v).length≤28800000):VCx prog ah 0 wF [ik fl t (r::v)] ⟨[],[]⟩ λx T'=>x=.vec 1 (eC fl t (r::v)) .none∧T'=⟨[],[]⟩:=by
 obtain ⟨h0,h1⟩:=Kb fl (r::v)
 have hp:=FZ (fl:=fl) (r:=r) (v:=v)
 obtain ⟨qs,hqs⟩:∃qs,(r::v).take (dt fl (r::v)).toNat=r::qs:=by
  obtain ⟨k,hk⟩:∃k,(dt fl (r::v)).toNat=k+1:=⟨_,(Nat.succ_pred_eq_of_pos hp).symm⟩
  exact ⟨v.take k,by rw [hk];rfl⟩
 have hql:(r::qs).length≤28800000:=by
  rw [←hqs,length_take];omega
 have hq1:∀e∈r::qs,e.length=1:=by
  rw [←hqs];exact (hv.take _).len1
 refine VCx.rowB (ma hv hl) (aj ag ac am ai (Uf fl t (r::v) (r::qs) (r::qs).flatten (bif jF fl then 8 else 7) ((r::qs).length+(bif jF fl then 4 else 3)) _) ?_)
 refine ak (λhx=> ?_) (λhx=> ?_)
 ·have hx2:jF fl=true:=hx
  have hM:dt fl (r::v)=(if (65535:Int)<((r::v).length:Int) then 65535 else ((r::v).length:Int)):=by unfold dt;rw [hx2];rfl
  rw [hx2,←hM]
  refine ⟨?_,mQ (id:=7) (n:=4) (tok:=.none) rfl rfl (le_refl 4) rfl (by omega) (by rw [add_comm 4];rfl) rfl,8,0,(r::qs).length+4,rfl,?_⟩
  ·have h:=nt (x:=.tmp 31) (i:=.tmp 32) (l:= [(31,.vec 1 (r::v) .none),(32,.val (.int .i64 (dt fl (r::v))))]) (b:=r::v) (tok:=.none) (k:=.i64) (z:=dt fl (r::v)) rfl rfl h0 rfl h1
   rwa [hqs] at h
  ·have e:eC fl t (r::v)= [bT (bz fl 0),bT (bz t 0),bT (bz (dt fl (r::v)) 8),bT (bz (dt fl (r::v)) 0)]++(r::qs):=by unfold eC sX;rw [hx2,hqs];rfl
   rw [e]
   exact dI (es:= [bT (bz fl 0),bT (bz t 0),bT (bz (dt fl (r::v)) 8),bT (bz (dt fl (r::v)) 0)]++(r::qs)) rfl (λe he=>by
    rcases mem_append.1 he with h | h
    ·simp only [mem_cons,not_mem_nil,or_false] at h;rcases h with rfl | rfl | rfl | rfl<;>rfl
    ·exact hq1 e h)
 ·have hx2:jF fl=false:=hx
  have hM:dt fl (r::v)=(if (255:Int)<((r::v).length:Int) then 255 else ((r::v).length:Int)):=by unfold dt;rw [hx2];rfl
  rw [hx2,←hM]
  refine ⟨?_,mQ (id:=6) (n:=3) (tok:=.none) rfl rfl (le_refl 3) rfl (by omega) (by rw [add_comm 3];rfl) rfl,7,0,(r::qs).length+3,rfl,?_⟩
  ·have h:=nt (x:=.tmp 31) (i:=.tmp 32) (l:= [(31,.vec 1 (r::v) .none),(32,.val (.int .i64 (dt fl (r::v))))]) (b:=r::v) (tok:=.none) (k:=.i64) (z:=dt fl (r::v)) rfl rfl h0 rfl h1
   rwa [hqs] at h
  ·have e:eC fl t (r::v)= [bT (bz fl 0),bT (bz t 0),bT (bz (dt fl (r::v)) 0)]++(r::qs):=by unfold eC sX;rw [hx2,hqs];rfl
   rw [e]
   exact dI (es:= [bT (bz fl 0),bT (bz t 0),bT (bz (dt fl (r::v)) 0)]++(r::qs)) rfl (λe he=>by
    rcases mem_append.1 he with h | h
    ·simp only [mem_cons,not_mem_nil,or_false] at h;rcases h with rfl | rfl | rfl<;>rfl
    ·exact hq1 e h)
--bumped 32
theorem qg {z:Int}(h0:0≤z)(h1:z<65537):bz z 0=wrap .u8 z:=by
 unfold bz
 have e:wrap .u64 z=z:=by simp only [wrap,IntKind.bits,signed];simp;omega
 rw [e,Int.pow_zero,Int.fdiv_one]
theorem Nk {fl t:Int}(hf:0≤fl∧fl<256)(ht:0≤t∧t<256):VCx prog ah 0 wG [ik fl t []] ⟨[],[]⟩ λx T'=>x=.vec 1 (eC fl t []) .none∧T'=⟨[],[]⟩:=by
 refine VCx.rowB (ma .nil (by simp)) (aj ag ac am ai (Q5 fl t _) ?_)
 refine ak (λhx=>⟨3,0,4,rfl,?_⟩) (λhx=>⟨1,0,3,rfl,?_⟩)
 ·have e:eC fl t []= [bT (wrap .u8 fl),bT (wrap .u8 t),bT 0,bT 0]:=by
   unfold eC sX dt;rw [show jF fl=true from hx,qg (z:=fl) (by omega) (by omega),qg (z:=t) (by omega) (by omega)];rfl
  rw [e]
  exact dI (es:= [bT (wrap .u8 fl),bT (wrap .u8 t),bT 0,bT 0]) rfl (by intro e he;simp only [mem_cons,not_mem_nil,or_false] at he;rcases he with rfl | rfl | rfl | rfl<;>rfl)
 ·have e:eC fl t []= [bT (wrap .u8 fl),bT (wrap .u8 t),bT 0]:=by
   unfold eC sX dt;rw [show jF fl=false from hx,qg (z:=fl) (by omega) (by omega),qg (z:=t) (by omega) (by omega)];rfl
  rw [e]
  exact dI (es:= [bT (wrap .u8 fl),bT (wrap .u8 t),bT 0]) rfl (by intro e he;simp only [mem_cons,not_mem_nil,or_false] at he;rcases he with rfl | rfl | rfl<;>rfl)
theorem Q7 {fl t:Int}(hf:0≤fl∧fl<256)(ht:0≤t∧t<256){r:List TV}{v:Bs}(hv:IsB (r::v))(hl:(r::v).length≤28800000):VCx prog ah 0 wG [ik fl t (r::v)] ⟨[],[]⟩ λx T'=>x=.vec 1 (eC fl t (r::v)) .none∧T'=⟨[],[]⟩:=by
 obtain ⟨h0,h1⟩:=Kb fl (r::v)
 have hp:=FZ (fl:=fl) (r:=r) (v:=v)
 obtain ⟨qs,hqs⟩:∃qs,(r::v).take (dt fl (r::v)).toNat=r::qs:=by
  obtain ⟨k,hk⟩:∃k,(dt fl (r::v)).toNat=k+1:=⟨_,(Nat.succ_pred_eq_of_pos hp).symm⟩
  exact ⟨v.take k,by rw [hk];rfl⟩
 have hql:(r::qs).length≤28800000:=by
  rw [←hqs,length_take];omega
 have hq1:∀e∈r::qs,e.length=1:=by
  rw [←hqs];exact (hv.take _).len1
 refine VCx.rowB (ma hv hl) (aj ag ac am ai (Ug fl t (r::v) (r::qs) (r::qs).flatten (bif jF fl then 4 else 2) ((r::qs).length+(bif jF fl then 4 else 3)) _) ?_)
 refine ak (λhx=> ?_) (λhx=> ?_)
 ·have hx2:jF fl=true:=hx
  rw [hx2]
  refine ak (λhc=> ?_) (λhc=> ?_)
  ·have hb:((r::v).length:Int)>65535:=of_decide_eq_true hc
   have hM:dt fl (r::v)=65535:=by unfold dt;rw [hx2];simp only [cond_true];rw [if_pos hb]
   have hlw:((r::qs).length:Int)=dt fl (r::v):=by rw [←hqs,length_take];omega
   refine ⟨?_,mQ (id:=3) (n:=4) (tok:=.none) rfl rfl (le_refl 4) rfl (by omega) (by rw [add_comm 4];rfl) rfl,4,0,(r::qs).length+4,rfl,?_⟩
   ·have h:=nt (x:=.tmp 21) (i:=.const (.int .i64 65535)) (l:= [(21,.vec 1 (r::v) .none)]) (b:=r::v) (tok:=.none) (k:=.i64) (z:=65535) (n:=(dt fl (r::v)).toNat) rfl rfl (by decide) (by rw [hM]) h1
    rwa [hqs] at h
   ·have e:eC fl t (r::v)= [bT (wrap .u8 fl),bT (wrap .u8 t),bT (bz ((r::qs).length:Int) 8),bT (bz ((r::qs).length:Int) 0)]++(r::qs):=by
     unfold eC sX
     rw [hx2,hqs,hlw,qg (z:=fl) (by omega) (by omega),qg (z:=t) (by omega) (by omega)]
     rfl
    rw [e]
    exact dI (es:= [bT (wrap .u8 fl),bT (wrap .u8 t),bT (bz ((r::qs).length:Int) 8),bT (bz ((r::qs).length:Int) 0)]++(r::qs)) rfl (λe he=>by
     rcases mem_append.1 he with h | h
     ·simp only [mem_cons,not_mem_nil,or_false] at h;rcases h with rfl | rfl | rfl | rfl<;>rfl
     ·exact hq1 e h)
  ·have hb:¬((r::v).length:Int)>65535:=of_decide_eq_false hc
   have hM:dt fl (r::v)=((r::v).length:Int):=by unfold dt;rw [hx2];simp only [cond_true];rw [if_neg (by omega)]
   obtain rfl:v=qs:=by
    rw [hM,toNat_natCast,List.take_length] at hqs
    injection hqs
   have hlw:((r::v).length:Int)=dt fl (r::v):=hM.symm
   refine ⟨mQ (id:=3) (n:=4) (tok:=.none) rfl rfl (le_refl 4) rfl (by omega) (by rw [add_comm 4];rfl) rfl,4,0,(r::v).length+4,rfl,?_⟩
   ·have e:eC fl t (r::v)= [bT (wrap .u8 fl),bT (wrap .u8 t),bT (bz ((r::v).length:Int) 8),bT (bz ((r::v).length:Int) 0)]++(r::v):=by
     unfold eC sX
     rw [hx2,hqs,hlw,qg (z:=fl) (by omega) (by omega),qg (z:=t) (by omega) (by omega)]
     rfl
    rw [e]
    exact dI (es:= [bT (wrap .u8 fl),bT (wrap .u8 t),bT (bz ((r::v).length:Int) 8),bT (bz ((r::v).length:Int) 0)]++(r::v)) rfl (λe he=>by
     rcases mem_append.1 he with h | h
     ·simp only [mem_cons,not_mem_nil,or_false] at h;rcases h with rfl | rfl | rfl | rfl<;>rfl
     ·exact hq1 e h)
 ·have hx2:jF fl=false:=hx
  rw [hx2]
  refine ak (λhc=> ?_) (λhc=> ?_)
  ·have hb:((r::v).length:Int)>255:=of_decide_eq_true hc
   have hM:dt fl (r::v)=255:=by unfold dt;rw [hx2];simp only [cond_false];rw [if_pos hb]
   have hlw:((r::qs).length:Int)=dt fl (r::v):=by rw [←hqs,length_take];omega
   refine ⟨?_,mQ (id:=1) (n:=3) (tok:=.none) rfl rfl (le_refl 3) rfl (by omega) (by rw [add_comm 3];rfl) rfl,2,0,(r::qs).length+3,rfl,?_⟩
   ·have h:=nt (x:=.tmp 31) (i:=.const (.int .i64 255)) (l:= [(31,.vec 1 (r::v) .none)]) (b:=r::v) (tok:=.none) (k:=.i64) (z:=255) (n:=(dt fl (r::v)).toNat) rfl rfl (by decide) (by rw [hM]) h1
    rwa [hqs] at h
   ·have e:eC fl t (r::v)= [bT (wrap .u8 fl),bT (wrap .u8 t),bT (wrap .u8 ((r::qs).length:Int))]++(r::qs):=by
     unfold eC sX
     rw [hx2,hqs,hlw,qg (z:=fl) (by omega) (by omega),qg (z:=t) (by omega) (by omega),qg (z:=dt fl (r::v)) (by omega) (by omega)]
     rfl
    rw [e]
    exact dI (es:= [bT (wrap .u8 fl),bT (wrap .u8 t),bT (wrap .u8 ((r::qs).length:Int))]++(r::qs)) rfl (λe he=>by
     rcases mem_append.1 he with h | h
     ·simp only [mem_cons,not_mem_nil,or_false] at h;rcases h with rfl | rfl | rfl<;>rfl
     ·exact hq1 e h)
  ·have hb:¬((r::v).length:Int)>255:=of_decide_eq_false hc
   have hM:dt fl (r::v)=((r::v).length:Int):=by unfold dt;rw [hx2];simp only [cond_false];rw [if_neg (by omega)]
   obtain rfl:v=qs:=by
    rw [hM,toNat_natCast,List.take_length] at hqs
    injection hqs
   have hlw:((r::v).length:Int)=dt fl (r::v):=hM.symm
   refine ⟨mQ (id:=1) (n:=3) (tok:=.none) rfl rfl (le_refl 3) rfl (by omega) (by rw [add_comm 3];rfl) rfl,2,0,(r::v).length+3,rfl,?_⟩
   ·have e:eC fl t (r::v)= [bT (wrap .u8 fl),bT (wrap .u8 t),bT (wrap .u8 ((r::v).length:Int))]++(r::v):=by
     unfold eC sX
     rw [hx2,hqs,hlw,qg (z:=fl) (by omega) (by omega),qg (z:=t) (by omega) (by omega),qg (z:=dt fl (r::v)) (by omega) (by omega)]
     rfl
    rw [e]
    exact dI (es:= [bT (wrap .u8 fl),bT (wrap .u8 t),bT (wrap .u8 ((r::v).length:Int))]++(r::v)) rfl (λe he=>by
     rcases mem_append.1 he with h | h
     ·simp only [mem_cons,not_mem_nil,or_false] at h;rcases h with rfl | rfl | rfl<;>rfl
     ·exact hq1 e h)
--bumped 32
def Ie (x:TV):Prop:=∀f g,x.ren f g=x
def zz (o h m:Int)(hm:Bool)(x:TV)(t:Int)(v:Bs)(O:VO):Prop:=O=kD o h m hm x t v
def DzOk (dz:TV)(d:Bs):Prop:=(dz=.val (.slice none 0 0)∧d= [])∨(dz=.vec 1 d .none∧IsB d)
theorem DzOk.le {dz:TV}{d:Bs}(h:DzOk dz d)(f g:Nat→Option Nat):TVle (dz.ren f g) (.vec 1 d .none):=by
 rcases h with ⟨rfl,rfl⟩ | ⟨rfl,hd⟩
 ·exact .nil 1
 ·simp only [TV.ren,hd.ren,Tok.ren];exact .refl _
theorem DzOk.nil:DzOk (.val (.slice none 0 0)) []:=.inl ⟨rfl,rfl⟩
def zA (fl t:Int)(v:Bs):Prop:=(0≤fl∧fl<256)∧(0≤t∧t<256)∧IsB v∧v.length≤28800000
structure AtS where
 o:Int
 h:Int
 m:Int
 hm:Bool
 x:TV
def AtS.vo (a:AtS):VO:=lY a.o a.h a.m a.hm a.x
def AtS.tv (a:AtS):TV:=.agg [.val (.int .i64 a.o),a.x,.val (.int .u32 a.h),.val (.int .i64 a.m),.val (.bool a.hm)]
def rq:AtS:=⟨0,0,0,false,.val (.slice none 0 0)⟩
def AtS.put (a:AtS)(t:Int)(v:Bs):AtS:=
 if t=1 then {a with o:=cQ 1 v} else if t=2 then {a with x:=.vec 1 (mP v) .none} else if t=3 then {a with h:=cQ 4 v} else if t=4 then {a with m:=cQ 4 v,hm:=true} else a
theorem F0 (a:AtS)(t:Int)(v:Bs):kD a.o a.h a.m a.hm a.x t v=(a.put t v).vo:=by
 unfold kD AtS.put AtS.vo
 split
 ·rfl
 split
 ·rfl
 split
 ·rfl
 split<;>rfl
def AtS.Ok (a:AtS):Prop:=a.x=.val (.slice none 0 0)∨∃l:List Int,a.x=.vec 1 (iV l) .none
theorem AtS.Ok.ren {a:AtS}(h:a.Ok)(f g:Nat→Option Nat):a.x.ren f g=a.x:=by
 rcases h with h | ⟨l,h⟩<;>rw [h]
 ·rfl
 ·simp only [TV.ren,eP,Tok.ren]
theorem pk:rq.Ok:=.inl rfl
theorem AtS.Ok.put {a:AtS}(h:a.Ok)(t:Int)(v:Bs):(a.put t v).Ok:=by
 unfold AtS.put
 split
 ·exact h
 split
 ·exact .inr ⟨_,rfl⟩
 split
 ·exact h
 split
 ·exact h
 ·exact h
theorem AtS.Ok.vo_ren {a:AtS}(h:a.Ok)(f g:Nat→Option Nat):a.vo.ren f g=a.vo:=dJ h.ren f g
def fe (f:Nat→Bool):List TV:=(List.range 256).map λi=>.val (.bool (f i))
def pm (f:Nat→Bool)(t:Nat):Nat→Bool:=λi=>beq i t || f i
theorem DW (f:Nat→Bool):(fe f).length=256:=by simp [fe]
theorem Q8 {f:Nat→Bool}{t:Nat}(h:t<256):(fe f)[t]?=some (.val (.bool (f t))):=by
 simp [fe,getElem?_map,List.getElem?_range h]
theorem Nl (f:Nat→Bool)(t:Nat):(fe f).set t (.val (.bool true))=fe (pm f t):=by
 apply List.ext_getElem?
 intro j
 rw [List.getElem?_set]
 simp only [fe,getElem?_map,length_map,List.length_range]
 by_cases hj:j<256
 ·rw [List.getElem?_range hj]
  by_cases e:t=j
  ·subst e;rw [if_pos rfl,if_pos hj];simp [pm]
  ·rw [if_neg e]
   have:beq j t=false:=by
    cases hb:beq j t
    ·rfl
    ·exact absurd (Nat.eq_of_beq_eq_true hb).symm e
   simp [pm,this]
 ·rw [List.getElem?_eq_none (by simpa using hj:(List.range 256).length≤j)]
  by_cases e:t=j
  ·rw [if_pos e,if_neg (by omega)];rfl
  ·rw [if_neg e];rfl
def eS:List gQ→(Nat→Bool)→AtS→(Int × Bs) ⊕ (AtS × (Nat→Bool))
 |[],f,a=>.inr (a,f)
 | (fl,t,v)::l,f,a=>bif f t.toNat then .inl (1,[]) else if cI fl t v=0 then eS l (pm f t.toNat) (a.put t v) else if cI fl t v=11 then .inl (11,[]) else .inl (cI fl t v,eC fl t v)
def oc (a:AtS)(f:Nat→Bool):(Int × Bs) ⊕ AtS:=bif f 1 then (bif f 2 then (bif f 3 then .inr a else .inl (3,[bT 3])) else .inl (3,[bT 2])) else .inl (3,[bT 1])
def fE (b:Bs):(Int × Bs) ⊕ AtS:=bif ij b then (match eS (eo b) (λ_=>false) rq with
 | .inl e=>.inl e
 | .inr (a,f)=>oc a f) else .inl (1,[])
def cD (c s:Int)(d:Bs):TV:=.agg [.val (.int .i64 c),.val (.int .i64 s),.vec 1 d .none]
def AtS.fix (a:AtS):AtS:={a with x:=match a.x with
 | .vec 1 l _=>.vec 1 l .none
 |_=>.vec 1 [] .none}
def qh (b:Bs):TV:=match fE b with
 | .inl (s,d)=>.tup [rq.fix.tv,cD 3 s d]
 | .inr a=>.tup [a.fix.tv,cD 0 0 []]
theorem AtS.Ok.fix_le {a:AtS}(h:a.Ok):TVle a.tv a.fix.tv:=by
 obtain ⟨o,hh,m,hm,x⟩:=a
 rcases h with h | ⟨l,h⟩<;>simp only at h<;>subst h
 ·exact .agg ⟨.refl _,.nil 1,.refl _,.refl _,.refl _,trivial⟩
 ·exact .refl _
theorem AtS.Ok.fix_ren {a:AtS}(h:a.Ok)(f g:Nat→Option Nat):a.fix.tv.ren f g=a.fix.tv:=by
 obtain ⟨o,hh,m,hm,x⟩:=a
 rcases h with h | ⟨l,h⟩<;>simp only at h<;>subst h
 ·rfl
 ·simp only [AtS.tv,AtS.fix,TV.ren,aB,eP,Tok.ren]
def DX (l:List gQ):Prop:=∀p∈l,(0≤p.1∧p.1<256)∧(0≤p.2.1∧p.2.1<256)∧IsB p.2.2∧p.2.2.length≤28800000
theorem DY {n:Nat}{b:Bs}(h:IsB b)(e:Int):0≤aw n b e∧aw n b e<256^n:=by rw [qZ];exact q8 h e
theorem F1 {b:Bs}(h:IsB b)(e:Int):0≤aw 1 b e∧aw 1 b e<256:=DY (n:=1) h e
theorem Q9 {n:Nat}{b:Bs}{e:Int}:(bv n b e).length≤n:=by
 have h:=uX (n:=n) (b:=b) (e:=e)
 revert h;cases cJ n b e<;>simp only [cond_true,cond_false]<;>omega
theorem Ra {b:Bs}(h:IsB b):(dU b).length≤28800000:=by
 have h2:IsB (t4 b):=aH (aH h)
 have h3:0≤DA b∧DA b<65536:=by
  unfold DA
  unfold pj
  cases jF (dG b)
  ·have:=DY (n:=1) h2 (zy b)
   simp only [cond_false];omega
  ·exact DY (n:=2) h2 (zy b)
 obtain ⟨k,hk⟩:=Int.eq_ofNat_of_zero_le h3.1
 have:=Q9 (n:=k) (b:=wA b) (e:=DB b)
 unfold dU
 rw [hk] at h3 ⊢
 have h4:k<65536:=by omega
 exact Nat.le_trans this (by omega)
theorem DZ:∀(k:Nat) (b:Bs) (acc:List gQ),IsB b→DX acc→∀l,ii k b acc=some l→DX l
 | 0,_,_,_,_,l,h=>by cases h
 |k+1,b,acc,hb,ha,l,h=>by
  unfold ii at h
  cases h1:decide (bo b 0>0)<;>rw [h1] at h
  ·injection h with h;subst h;exact ha
  ·cases h2:decide (sU b=0)<;>rw [h2] at h
   ·cases h
   ·refine DZ k _ _ (JV hb) (λp hp=> ?_) l h
    rcases mem_append.1 hp with h3 | h3
    ·exact ha p h3
    ·obtain rfl:=mem_singleton.1 h3
     exact ⟨F1 hb 0,F1 (aH hb) _,ri hb,Ra hb⟩
theorem vi {b:Bs}(hb:IsB b):DX (eo b):=by
 unfold eo
 cases h:vP b with
 |none=>exact λp hp=>by simp at hp
 |some l=>exact DZ _ _ _ hb (λp hp=>by simp at hp) l h
theorem F3 {b:Bs}:(eo b).length≤b.length+1:=by
 have key:∀(k:Nat) (b:Bs) (acc l:List gQ),ii k b acc=some l→l.length≤acc.length+b.length+1:=by
  intro k
  induction k with
  |zero=>intro b acc l h;cases h
  |succ k ih=>
   intro b acc l h
   unfold ii at h
   by_cases hl:bo b 0>0
   ·rw [decide_eq_true hl] at h
    cases h2:decide (sU b=0)<;>rw [h2] at h
    ·cases h
    ·have h3:=ih _ _ _ h
     have h4:=t6 hl
     simp only [length_append,length_cons,length_nil] at h3
     omega
   ·rw [decide_eq_false hl] at h
    injection h with h;subst h;omega
 unfold eo
 cases h:vP b with
 |none=>simp
 |some l=>have:=key _ _ _ _ h;simpa using this
--bumped 32
abbrev ub:=84
abbrev uc:=96
def zB:be:=λ_ ys T K=>match ys with
 |[.vec 1 b _]=>IsB b∧bif ij b then K (.tup [.vec 3 (dl b) .none,.agg [.val (.int .i64 0),.val (.int .i64 0),.vec 1 [] .none]]) T else K (.tup [.vec 3 (dl b) .none,.agg [.val (.int .i64 3),.val (.int .i64 1),.vec 1 [] .none]]) T
 |_=>aR 83 default ys
def zC:be:=λro ys T K=>match ys with
 |[.ptr k 0,.agg [.val (.int .i64 fl),.val (.int .i64 t),.vec 1 v .none]]=>match T.objs[k]? with
  |some (.cells [.val (.int .i64 o),x,.val (.int .u32 h),.val (.int .i64 m),.val (.bool hm)])=>(Nat.ble ro k=true∧IsB v∧Ie x)∧∀(s:Int) (O:VO),(s=cI fl t v∧(s=0→zz o h m hm x t v O))→K (.val (.int .i64 s)) {T with objs:=T.objs.set k O}
  |_=>aR 80 default ys
 |_=>aR 81 default ys
def zD:be:=λ_ ys T K=>match ys with
 |[.agg [.val (.int .i64 fl),.val (.int .i64 t),.vec 1 v .none]]=>zA fl t v∧K (.vec 1 (eC fl t v) .none) T
 |_=>aR 83 default ys
def nF:TV:=.val (.slice none 0 0)
def rt:VO:=.cells [.val (.int .i64 0),nF,.val (.int .u32 0),.val (.int .i64 0),.val (.bool false)]
def A9:VO:=.cells [.val (.int .i64 0),.val (.int .i64 0),nF]
def ru:List Nat:= [2,3,6,7,22,23,24]
def qi (L:Bs)(j:Int):List TV:= [.ptr 0 0,.ptr 1 0,.ptr 3 0,.ptr 4 0,.vec 3 L .none,.val (.int .i64 L.length),.val (.int .i64 j)]
def Ba:VO:=.cells [.val (.int .i64 0),.val (.int .i64 0),.vec 1 [] .none]
def Uh:VO:=.cells ((List.range 256).map λ_=>.val (.bool false))
def Kc (N:Nat)(L:Bs)(ok:Bool)(s:Int)(d:Bs)(o h m:Int)(hm:Bool)(xn:Bool)(xl:Bs)(c1 c2 c3:Bool)(K:KX):Prop:=bif ok then (∀(j:Int) (c0:Bool) (rm:List TV),bif xn then K .normal (aJ N ru (qi L j)) ⟨[rt,A9,Ba,lY o h m hm nF,.cells (.val (.bool c0):: .val (.bool c1):: .val (.bool c2):: .val (.bool c3)::rm)],[]⟩ [] else K .normal (aJ N ru (qi L j)) ⟨[rt,A9,Ba,lY o h m hm (.vec 1 xl .none),.cells (.val (.bool c0):: .val (.bool c1):: .val (.bool c2):: .val (.bool c3)::rm)],[]⟩ []) else ∀(j:Int) (dz:TV) (rest:List VO) (tlz:fR),DzOk dz d→K .ret (aJ N ru (qi L j)) ⟨rt:: .cells [.val (.int .i64 3),.val (.int .i64 s),dz]::rest,tlz⟩ []
def OG (N:Nat)(L:Bs)(ok:Bool)(s:Int)(d:Bs)(o h m:Int)(hm:Bool)(xn:Bool)(xl:Bs)(c1 c2 c3:Bool)(c0:Code):Nat→Option (cB × Code):=cG [(0,dB N ru [] (qi L 0) ⟨[rt,A9,Ba,rt,Uh],[]⟩ (Kc N L ok s d o h m hm xn xl c1 c2 c3),c0)]
theorem OH (b:Bs)(ok:Bool)(s:Int)(d:Bs)(o h m:Int)(hm:Bool)(xn:Bool)(xl:Bs)(c1 c2 c3:Bool)(Q:TV→VT→Prop):au prog ah (aI [(t3,zB)]) (bc [(999999,.dead,none)]) 300 (OG 65 (dl b) ok s d o h m hm xn xl c1 c2 c3 (aA prog ub 0)) 0 ub [.vec 1 b .none] ap Q=
 (IsB (b)∧
 (bif ij b
 then ((aA prog ub (0:Nat)=aA prog ub (0:Nat))∧
 (((@Eq (Option Nat) .none .none)∧
 ((@Eq (Nat) 0 0)∧
 ((@Eq (List Nat) [] [])∧
 (True  ∧
 ((@Eq (VT) BG BG)∧
 ((@Eq (Bool) true true)∧
 (@Eq (List TV) (BF (dl b) (↑(length (dl b)):Int)) (BF (dl b) (↑(length (dl b)):Int)))))))))∧
 (bif ok
 then (∀j:Int,(∀c0:Bool,(∀rm:List TV,(bif xn
 then (bif aq eql (aT (Value.bool false) (Value.bool c1))
 then Q (kH [[(.val (.int .u8 1))]]) (HJ [[(.val (.int .u8 1))]] o h m hm ([(.val (.bool (c0))),(.val (.bool (c1))),(.val (.bool (c2))),(.val (.bool (c3)))]++rm))
 else (bif aq eql (aT (Value.bool false) (Value.bool c2))
 then Q (kH [[(.val (.int .u8 2))]]) (HJ [[(.val (.int .u8 2))]] o h m hm ([(.val (.bool (c0))),(.val (.bool (c1))),(.val (.bool (c2))),(.val (.bool (c3)))]++rm))
 else (bif aq eql (aT (Value.bool false) (Value.bool c3))
 then Q (kH [[(.val (.int .u8 3))]]) (HJ [[(.val (.int .u8 3))]] o h m hm ([(.val (.bool (c0))),(.val (.bool (c1))),(.val (.bool (c2))),(.val (.bool (c3)))]++rm))
 else Q (Oc o h m hm) (Ob o h m hm o h m hm ([(.val (.bool (c0))),(.val (.bool (c1))),(.val (.bool (c2))),(.val (.bool (c3)))]++rm)))))
 else (bif aq eql (aT (Value.bool false) (Value.bool c1))
 then Q (kH [[(.val (.int .u8 1))]]) (HI [[(.val (.int .u8 1))]] o xl h m hm ([(.val (.bool (c0))),(.val (.bool (c1))),(.val (.bool (c2))),(.val (.bool (c3)))]++rm))
 else (bif aq eql (aT (Value.bool false) (Value.bool c2))
 then Q (kH [[(.val (.int .u8 2))]]) (HI [[(.val (.int .u8 2))]] o xl h m hm ([(.val (.bool (c0))),(.val (.bool (c1))),(.val (.bool (c2))),(.val (.bool (c3)))]++rm))
 else (bif aq eql (aT (Value.bool false) (Value.bool c3))
 then Q (kH [[(.val (.int .u8 3))]]) (HI [[(.val (.int .u8 3))]] o xl h m hm ([(.val (.bool (c0))),(.val (.bool (c1))),(.val (.bool (c2))),(.val (.bool (c3)))]++rm))
 else Q (.tup [(.agg [(ae o),(an xl),(cc h),(ae m),(ei hm)]),iA]) ⟨[(mG o xl h m hm),bh,b8,(mG o xl h m hm),(gg ([(.val (.bool (c0))),(.val (.bool (c1))),(.val (.bool (c2))),(.val (.bool (c3)))]++rm))],[]⟩)))))))
 else (∀j:Int,(∀dz:TV,(∀rest:List VO,(∀tlz:fR,(DzOk (dz) (d)→Q (Oa s dz) ⟨[(.cells [(.val (.int .i64 0)),(.val (.slice .none 0 0)),(.val (.int .u32 0)),(.val (.int .i64 0)),(.val (.bool false))]),(.cells [(.val (.int .i64 3)),(.val (.int .i64 (s))),(dz)])]++rest,tlz⟩))))))))
 else Q N9 N8)):=by kernel_rfl
abbrev qj (L:Bs)(j:Int):List TV:=(HG L (↑(length L):Int) j)
theorem Kd (L:Bs)(j fl t:Int)(v:Bs)(tn:Nat)(c:Bool)(M M2:List TV)(o h m:Int)(hm:Bool)(x:TV)(Q:Exit→List TV→VT→List Nat→Nat→Prop):vx prog ah (aI [(DS,zC),(wF,zD)]) (bc [(999999,.dead,none),(26,.elt [.val (.int .i64 fl),.val (.int .i64 t),.vec 1 v .none],none),(30,.ptr 4 tn,none),(31,.val (.bool c),some λT=>T),(36,.ptr 4 tn,none),(500036,.val undef,some λT=>{T with objs:=T.objs.set 4 (gg M2)})]) 300 aG none 0 (cM prog ub 0) (aJ 65 ru (qi L j)) ⟨[rt,A9,Ba,lY o h m hm x,.cells M],[]⟩ [] (de ru Q)=
 (bif decide (j<(↑(length L):Int))
 then (ba prog (λ_=>.none) (.indexAddr 199 (.tmp 22) (.tmp 24)) [(22,(.vec 3 L .none)),(24,(ae j))] (.elt [(ae fl),(ae t),(an v)])∧
 (ba prog (λ_=>.none) (.indexAddr 202 (.tmp 7) (.tmp 29)) [(7,kG),(29,(ae t))] (.ptr 4 tn)∧
 (br prog (λ_=>.none) 0 (pW o x h m hm M fl t v) (.load 4 (.tmp 30)) [(30,(.ptr 4 tn))] (ei c) (pW o x h m hm M fl t v)∧
 (bif c
 then Q .ret (qj L j) ⟨[gV,jQ,b8,(ej o x h m hm),(gg M),(dX fl t v)],[]⟩ [] 65
 else (ba prog (λ_=>.none) (.indexAddr 202 (.tmp 7) (.tmp 35)) [(7,kG),(35,(ae t))] (.ptr 4 tn)∧
 (br prog (λ_=>.none) 0 (pW o x h m hm M fl t v) (.store 4 (.tmp 36) (.const (.bool true))) [(36,(.ptr 4 tn))] (.val (.tuple #[])) (pW o x h m hm M2 fl t v)∧
 (((@Eq (Bool) true true)∧
 (IsB (v)∧
 Ie (x)))∧
 (∀s:Int,(∀O:VO,(((@Eq (Int) (s) (cI fl t v))∧
 ((@Eq (Int) (s) 0)→zz (o) (h) (m) (hm) (x) (t) (v) (O)))→(bif aq eql (k6 s (0:Int))
 then Q .normal (HG L (↑(length L):Int) (wrap i64 (j+(1:Int)))) (N6 O M2 fl t v) [] 65
 else (bif aq eql (k6 s (11:Int))
 then Q .ret (qj L j) ⟨[gV,(HF s),b8,O,(gg M2),(dX fl t v)],[]⟩ [] 65
 else (zA (fl) (t) (v)∧
 Q .ret (qj L j) ⟨[gV,(pV s (eC fl t v)),b8,O,(gg M2),(dX fl t v)],[]⟩ [] 65)))))))))))))
 else Q (.exit 0) (qj L j) (N5 o x h m hm M) [] 65):=by kernel_rfl
theorem OI (b:Bs)(ok:Bool)(s:Int)(d:Bs)(o h m:Int)(hm:Bool)(xn:Bool)(xl:Bs)(c1 c2 c3:Bool)(Q:TV→VT→Prop):au prog ah (aI [(pi,zB)]) (bc [(999999,.dead,none)]) 300 (OG 68 (dl b) ok s d o h m hm xn xl c1 c2 c3 (aA prog uc 0)) 0 uc [.vec 1 b .none] ap Q=
 (IsB (b)∧
 (bif ij b
 then ((aA prog uc (0:Nat)=aA prog uc (0:Nat))∧
 (((@Eq (Option Nat) .none .none)∧
 ((@Eq (Nat) 0 0)∧
 ((@Eq (List Nat) [] [])∧
 (True  ∧
 ((@Eq (VT) BG BG)∧
 ((@Eq (Bool) true true)∧
 (@Eq (List TV) (BF (dl b) (↑(length (dl b)):Int)) (BF (dl b) (↑(length (dl b)):Int)))))))))∧
 (bif ok
 then (∀j:Int,(∀c0:Bool,(∀rm:List TV,(bif xn
 then (bif !c1
 then Q (kH [[(.val (.int .u8 1))]]) (HE [[(.val (.int .u8 1))]] o h m hm ([(.val (.bool (c0))),(.val (.bool (c1))),(.val (.bool (c2))),(.val (.bool (c3)))]++rm) [[(.val (.int .u8 1))]])
 else (bif !c2
 then Q (kH [[(.val (.int .u8 2))]]) (HE [[(.val (.int .u8 2))]] o h m hm ([(.val (.bool (c0))),(.val (.bool (c1))),(.val (.bool (c2))),(.val (.bool (c3)))]++rm) [[(.val (.int .u8 2))]])
 else (bif !c3
 then Q (kH [[(.val (.int .u8 3))]]) (HE [[(.val (.int .u8 3))]] o h m hm ([(.val (.bool (c0))),(.val (.bool (c1))),(.val (.bool (c2))),(.val (.bool (c3)))]++rm) [[(.val (.int .u8 3))]])
 else Q (Oc o h m hm) (Ob o h m hm o h m hm ([(.val (.bool (c0))),(.val (.bool (c1))),(.val (.bool (c2))),(.val (.bool (c3)))]++rm)))))
 else (bif !c1
 then Q (kH [[(.val (.int .u8 1))]]) (HD [[(.val (.int .u8 1))]] o xl h m hm ([(.val (.bool (c0))),(.val (.bool (c1))),(.val (.bool (c2))),(.val (.bool (c3)))]++rm) [[(.val (.int .u8 1))]])
 else (bif !c2
 then Q (kH [[(.val (.int .u8 2))]]) (HD [[(.val (.int .u8 2))]] o xl h m hm ([(.val (.bool (c0))),(.val (.bool (c1))),(.val (.bool (c2))),(.val (.bool (c3)))]++rm) [[(.val (.int .u8 2))]])
 else (bif !c3
 then Q (kH [[(.val (.int .u8 3))]]) (HD [[(.val (.int .u8 3))]] o xl h m hm ([(.val (.bool (c0))),(.val (.bool (c1))),(.val (.bool (c2))),(.val (.bool (c3)))]++rm) [[(.val (.int .u8 3))]])
 else Q (.tup [(.agg [(ae o),(an xl),(cc h),(ae m),(ei hm)]),iA]) ⟨[(mG o xl h m hm),bh,b8,(mG o xl h m hm),(gg ([(.val (.bool (c0))),(.val (.bool (c1))),(.val (.bool (c2))),(.val (.bool (c3)))]++rm))],[]⟩)))))))
 else (∀j:Int,(∀dz:TV,(∀rest:List VO,(∀tlz:fR,(DzOk (dz) (d)→Q (Oa s dz) ⟨[(.cells [(.val (.int .i64 0)),(.val (.slice .none 0 0)),(.val (.int .u32 0)),(.val (.int .i64 0)),(.val (.bool false))]),(.cells [(.val (.int .i64 3)),(.val (.int .i64 (s))),(dz)])]++rest,tlz⟩))))))))
 else Q N9 N8)):=by kernel_rfl
theorem Ke (L:Bs)(j fl t:Int)(v:Bs)(tn:Nat)(c:Bool)(M M2:List TV)(o h m:Int)(hm:Bool)(x:TV)(Q:Exit→List TV→VT→List Nat→Nat→Prop):vx prog ah (aI [(H9,zC),(wG,zD)]) (bc [(999999,.dead,none),(26,.elt [.val (.int .i64 fl),.val (.int .i64 t),.vec 1 v .none],none),(30,.ptr 4 tn,none),(31,.val (.bool c),some λT=>T),(36,.ptr 4 tn,none),(500036,.val undef,some λT=>{T with objs:=T.objs.set 4 (gg M2)})]) 300 aG none 0 (cM prog uc 0) (aJ 68 ru (qi L j)) ⟨[rt,A9,Ba,lY o h m hm x,.cells M],[]⟩ [] (de ru Q)=
 (bif decide (j<(↑(length L):Int))
 then (ba prog (λ_=>.none) (.indexAddr 209 (.tmp 22) (.tmp 24)) [(22,(.vec 3 L .none)),(24,(ae j))] (.elt [(ae fl),(ae t),(an v)])∧
 (ba prog (λ_=>.none) (.indexAddr 202 (.tmp 7) (.tmp 29)) [(7,kG),(29,(ae t))] (.ptr 4 tn)∧
 (br prog (λ_=>.none) 0 (pW o x h m hm M fl t v) (.load 4 (.tmp 30)) [(30,(.ptr 4 tn))] (ei c) (pW o x h m hm M fl t v)∧
 (bif c
 then Q .ret (qj L j) ⟨[gV,jQ,b8,(ej o x h m hm),(gg M),(dX fl t v),jQ],[]⟩ [] 68
 else (ba prog (λ_=>.none) (.indexAddr 202 (.tmp 7) (.tmp 35)) [(7,kG),(35,(ae t))] (.ptr 4 tn)∧
 (br prog (λ_=>.none) 0 (pW o x h m hm M fl t v) (.store 4 (.tmp 36) (.const (.bool true))) [(36,(.ptr 4 tn))] (.val (.tuple #[])) (pW o x h m hm M2 fl t v)∧
 (((@Eq (Bool) true true)∧
 (IsB (v)∧
 Ie (x)))∧
 (∀s:Int,(∀O:VO,(((@Eq (Int) (s) (cI fl t v))∧
 ((@Eq (Int) (s) 0)→zz (o) (h) (m) (hm) (x) (t) (v) (O)))→(bif aq eql (k6 s (0:Int))
 then Q .normal (HG L (↑(length L):Int) (wrap i64 (j+(1:Int)))) (N6 O M2 fl t v) [] 68
 else (bif aq eql (k6 s (11:Int))
 then Q .ret (qj L j) ⟨[gV,(HF s),b8,O,(gg M2),(dX fl t v),(HF s)],[]⟩ [] 68
 else (zA (fl) (t) (v)∧
 Q .ret (qj L j) ⟨[gV,(pV s (eC fl t v)),b8,O,(gg M2),(dX fl t v),(pV s (eC fl t v))],[]⟩ [] 68)))))))))))))
 else Q (.exit 0) (qj L j) (N5 o x h m hm M) [] 68):=by kernel_rfl
section
variable {P:Program}{G:aV}
theorem Kf {t e:TypeId}{x i:Operand}{l:List (Nat × TV)}{inf:TypeInfo}{id off n:Nat}{k:IntKind}{z:Int}(ht:P.underlying t=some (.array n e))(hi:P.info? e=some inf)
  (hx:aL G l x=.ptr id off) (hz:aL G l i=.val (.int k z)) (h0:0≤z) (h1:z<n):ba P G (.indexAddr t x i) l (.ptr id (off+z.toNat*inf.size)):=by
 refine ⟨?_⟩
 simp [bu,hx,hz,oq,gv,ht,hi,h0,h1]
theorem Fg {ro:Nat}{T:VT}{t:TypeId}{d:TypeDesc}{a:Operand}{l:List (Nat × TV)}{inf:TypeInfo}{id off:Nat}{cs:List TV}{y:TV}(ht:P.underlying t=some d)(hd:oF d=false)(hi:P.info? t=some inf)
  (ha:aL G l a=.ptr id off) (ho:T.objs[id]?=some (.cells cs)) (hy:cs[off]?=some y):br P G ro T (.load t a) l y T:=by
 refine .mk ?_
 have hlt:=(List.getElem?_eq_some_iff.1 hy).1
 have hc:eR T (.ptr id off) 1=some [y]:=by
  simp only [eR,ho]
  rw [if_pos (by omega)]
  congr 1
  rw [List.take_one,List.head?_drop,hy];rfl
 have h1:bu P (.load t a) (aL G l)=none:=by simp [bu,eJ]
 have h2:bs P T (.load t a) (aL G l)=some y:=by simp [bs,dV,lC,ht,hi,hd,ha,hc]
 simp only [gH,h1,h2]
theorem D0 {ro:Nat}{T:VT}{t:TypeId}{a x:Operand}{l:List (Nat × TV)}{inf:TypeInfo}{id off:Nat}{cs new:List TV}(hi:P.info? t=some inf)
  (ha:aL G l a=.ptr id off) (hx:b6 (aL G l x)=some new) (ho:T.objs[id]?=some (.cells cs)) (hn:inf.size=new.length) (hle:off+new.length≤cs.length) (hc:new.all g7=true) (hro:ro≤id):
  br P G ro T (.store t a x) l (.val undef) {T with objs:=T.objs.set id (.cells (ci cs off new))}:=by
 refine .old ?_ ?_
 ·simp [pJ,ha,hro]
 ·have h1:lE P T t (aL G l a) (aL G l x)=some (.val undef,{T with objs:=T.objs.set id (.cells (ci cs off new))}):=by
   simp only [lE,ha,ho,hx,hi]
   rw [if_pos ⟨hn,hle,hc⟩]
  simp [vC,eJ,dV,oH,h1]
theorem Kg (cs:List TV)(off:Nat)(y:TV)(h:off<cs.length):ci cs off [y]=cs.set off y:=by
 unfold ci
 rw [List.set_eq_take_append_cons_drop,if_pos h]
 simp
end
theorem Rb {b:Bs}(hb:IsB b)(f g:Nat→Option Nat):(t5 b).ren f g=t5 b:=by
 simp only [t5,TV.ren,aB,rj hb,Tok.ren,bm]
theorem F4 {f:FuncId}(h:∀{b:Bs},IsB b→VCx prog ah 0 f [.vec 1 b .none] ⟨[],[]⟩ λx T'=>x=t5 b∧T'=⟨[],[]⟩):∀ro ys T K,zB ro ys T K→VCx prog ah ro f ys T K:=by
 intro ro ys T K hw
 unfold zB at hw
 split at hw
 ·rename_i b tok
  refine VCx.loosePure aP (h hw.1) (by simp [cA]) (by simp [aB,TV.ren,hw.1.ren,Tok.ren]) (λf h=>Rb hw.1 f h) ?_
  have h2:=hw.2
  unfold t5
  cases hh:ij b<;>rw [hh] at h2<;>exact h2
 ·exact hw.elim
theorem Rc {o h m t:Int}{hm:Bool}{x:TV}{v:Bs}(hx:Ie x)(f g:Nat→Option Nat):(kD o h m hm x t v).ren f g=kD o h m hm x t v:=by
 unfold kD
 split
 ·exact dJ hx f g
 split
 ·exact dJ (sx v) f g
 split
 ·exact dJ hx f g
 split
 ·exact dJ hx f g
 ·exact dJ hx f g
theorem F5 {f:FuncId}(hf:∀(o h m fl t:Int) (hm:Bool) {x:TV} (_:∀f g,x.ren f g=x) {v:Bs} (_:IsB v),VCx prog ah 0 f [.ptr 0 0,ik fl t v] ⟨[lY o h m hm x],[]⟩ (t9 o h m hm x fl t v)):∀ro ys T K,zC ro ys T K→VCx prog ah ro f ys T K:=by
 intro ro ys T K hw
 unfold zC at hw
 split at hw
 ·rename_i k fl t v
  split at hw
  ·rename_i o x h m hm ho
   obtain ⟨⟨hro,hv,hx⟩,hk⟩:=hw
   refine VCx.at1 (Q:=λy o' l'=>y=.val (.int .i64 (cI fl t v))∧l'= []∧(cI fl t v=0→o'=kD o h m hm x t v)) aP (Nat.le_of_ble_eq_true hro) ho rfl (dJ hx _ _) (ys1:= [.ptr 0 0,ik fl t v]) (by simp [aB,TV.ren,bb,ik,hv.ren,Tok.ren]) ((hf o h m fl t hm hx hv).mono ?_) ?_
   ·rintro y T' ⟨h1,O,h2,h3⟩
    exact ⟨O,[],h2,h1,rfl,h3⟩
   ·rintro y o' l' ⟨rfl,rfl,h3⟩
    simpa [TV.ren] using hk (cI fl t v) (o'.ren (bd T.objs.length [k]) (bd T.tails.length [])) ⟨rfl,λhs=>by
     unfold zz
     rw [h3 hs];exact Rc hx _ _⟩
  ·exact hw.elim
 ·exact hw.elim
theorem F6 {f:FuncId}(h:∀(fl t:Int) (v:Bs),zA fl t v→VCx prog ah 0 f [ik fl t v] ⟨[],[]⟩ λx T'=>x=.vec 1 (eC fl t v) .none∧T'=⟨[],[]⟩):∀ro ys T K,zD ro ys T K→VCx prog ah ro f ys T K:=by
 intro ro ys T K hw
 unfold zD at hw
 split at hw
 ·rename_i fl t v
  have hv:=hw.1.2.2.1
  have hr:=ma (fl:=fl) (t:=t) hv hw.1.2.2.2
  exact VCx.liftPure aP (h fl t v hw.1) (by simp [aB,TV.ren,ik,hv.ren,Tok.ren]) (λf g=>by simp only [TV.ren,hr.ren,Tok.ren]) hw.2
 ·exact hw.elim
theorem Rd (fl t:Int)(v:Bs)(h:zA fl t v):VCx prog ah 0 wF [ik fl t v] ⟨[],[]⟩ λx T'=>x=.vec 1 (eC fl t v) .none∧T'=⟨[],[]⟩:=by
 cases v with
 |nil=>exact Nj fl t
 |cons r v=>exact Q6 fl t h.2.2.1 h.2.2.2
theorem Re (fl t:Int)(v:Bs)(h:zA fl t v):VCx prog ah 0 wG [ik fl t v] ⟨[],[]⟩ λx T'=>x=.vec 1 (eC fl t v) .none∧T'=⟨[],[]⟩:=by
 cases v with
 |nil=>exact Nk h.1 h.2.1
 |cons r v=>exact Q7 h.1 h.2.1 h.2.2.1 h.2.2.2
theorem Nm (f:Nat→Bool)(g h:Nat→Option Nat):aB g h (fe f)=fe f:=by
 simp only [gE,fe,List.map_map];rfl
theorem D3 (f:Nat→Bool)(g h:Nat→Option Nat):(VO.cells (fe f)).ren g h=.cells (fe f):=by
 simp only [VO.ren,Nm]
theorem Kh (f:Nat→Bool):fe f=.val (.bool (f 0)):: .val (.bool (f 1)):: .val (.bool (f 2)):: .val (.bool (f 3))::(fe f).drop 4:=rfl
def ue (b:Bs):(Int × Bs) ⊕ (AtS × (Nat→Bool)):=eS (eo b) (λ_=>false) rq
theorem vj:∀(l:List gQ) (f:Nat→Bool) (a:AtS),a.Ok→∀a' f',eS l f a=.inr (a',f')→a'.Ok
 |[],f,a,h,a',f',e=>by injection e with e;injection e with e1 e2;exact e1▸h
 | (fl,t,v)::l,f,a,h,a',f',e=>by
  unfold eS at e
  cases hf:f t.toNat<;>rw [hf] at e
  ·simp only [cond_false] at e
   split at e
   ·exact vj l _ _ (h.put t v) a' f' e
   ·split at e<;>cases e
  ·cases e
def F7 (a:AtS)(f:Nat→Bool):VT:=⟨[rt,A9,Ba,a.vo,.cells (fe f)],[]⟩
def XN (s:Int)(dz:TV):VO:=.cells [.val (.int .i64 3),.val (.int .i64 s),dz]
def D4 (b:Bs)(ex:Exit)(vs:List TV)(T:VT):Prop:=
 (∃(a:AtS) (f:Nat→Bool) (j:Int),ue b=.inr (a,f)∧ex=.normal∧vs=qi (dl b) j∧T=F7 a f)∨
 (∃(s:Int) (d:Bs) (dz:TV) (rest:List VO) (tlz:fR) (j:Int),ue b=.inl (s,d)∧DzOk dz d∧ex=.ret∧vs=qi (dl b) j∧T=⟨rt::XN s dz::rest,tlz⟩)
def od (b:Bs)(ok:Bool)(s:Int)(d:Bs)(o h m:Int)(hm:Bool)(xn:Bool)(xl:Bs)(c1 c2 c3:Bool):Prop:=
 (ok=false∧ue b=.inl (s,d))∨(ok=true∧∃f,ue b=.inr (⟨o,h,m,hm,bif xn then nF else .vec 1 xl .none⟩,f)∧c1=f 1∧c2=f 2∧c3=f 3)
theorem Bb {N:Nat}{b:Bs}{ok:Bool}{s:Int}{d:Bs}{o h m:Int}{hm xn:Bool}{xl:Bs}{c1 c2 c3:Bool}{K:KX}(hp:od b ok s d o h m hm xn xl c1 c2 c3)(hK:Kc N (dl b) ok s d o h m hm xn xl c1 c2 c3 K){ex:Exit}{vs:List TV}{T:VT}(hq:D4 b ex vs T):K ex (aJ N ru vs) T []:=by
 unfold Kc at hK
 rcases hp with ⟨rfl,hr⟩ | ⟨rfl,f,hr,rfl,rfl,rfl⟩
 ·rcases hq with ⟨a,f,j,h1,_⟩ | ⟨s',d',dz,rest,tlz,j,h1,h2,rfl,rfl,rfl⟩
  ·rw [hr] at h1;cases h1
  ·rw [hr] at h1;injection h1 with h1;injection h1 with e1 e2;subst e1 e2
   exact hK j dz rest tlz h2
 ·rcases hq with ⟨a,f',j,h1,rfl,rfl,rfl⟩ | ⟨s',d',dz,rest,tlz,j,h1,_⟩
  ·rw [hr] at h1;injection h1 with h1;injection h1 with e1 e2;subst e1 e2
   have h3:=hK j (f 0) ((fe f).drop 4)
   unfold F7
   rw [Kh f]
   cases xn<;>exact h3
  ·rw [hr] at h1;cases h1
theorem Nn {x i:Operand}{l:List (Nat × TV)}{es:Bs}{tok:Tok}{k:IntKind}{z:Int}{cs:List TV}(hx:aL ah l x=.vec 3 es tok)(hz:aL ah l i=.val (.int k z))(h0:0≤z)(he:es[z.toNat]?=some cs):ba prog ah (.indexAddr 199 x i) l (.elt cs):=by
 obtain ⟨inf,i1,i2,i3,i4⟩:=DE
 exact dZ (inf:=inf) Tryz.underlying199 i1 (by rw [i2];exact hx) hz h0 he
theorem No {x i:Operand}{l:List (Nat × TV)}{es:Bs}{tok:Tok}{k:IntKind}{z:Int}{cs:List TV}(hx:aL ah l x=.vec 3 es tok)(hz:aL ah l i=.val (.int k z))(h0:0≤z)(he:es[z.toNat]?=some cs):ba prog ah (.indexAddr 209 x i) l (.elt cs):=by
 obtain ⟨inf,i1,i2,i3,i4⟩:=DG
 exact dZ (inf:=inf) Tryz.underlying209 i1 (by rw [i2];exact hx) hz h0 he
theorem wH:∃inf:TypeInfo,prog.info? 4=some inf∧inf.size=1:=⟨(prog.info? 4).getD default,by kernel_rfl,by kernel_rfl⟩
theorem Np:∃d:TypeDesc,prog.underlying 4=some d∧oF d=false:=⟨_,Tryz.underlying4,rfl⟩
theorem qk {x i:Operand}{l:List (Nat × TV)}{id:Nat}{k:IntKind}{z:Int}(hx:aL ah l x=.ptr id 0)(hz:aL ah l i=.val (.int k z))(h0:0≤z)(h1:z<256):ba prog ah (.indexAddr 202 x i) l (.ptr id z.toNat):=by
 obtain ⟨inf,i1,i2⟩:=wH
 have h:=Kf (P:=prog) (G:=ah) (inf:=inf) (t:=202) (x:=x) (i:=i) (l:=l) Tryz.underlying202 i1 hx hz h0 h1
 rwa [i2,Nat.mul_one,zero_add] at h
theorem Bc {T:VT}{a:Operand}{l:List (Nat × TV)}{id off:Nat}{f:Nat→Bool}(ha:aL ah l a=.ptr id off)(ho:T.objs[id]?=some (.cells (fe f)))(h1:off<256):br prog ah 0 T (.load 4 a) l (.val (.bool (f off))) T:=by
 obtain ⟨inf,i1,i2⟩:=wH
 obtain ⟨d,d1,d2⟩:=Np
 exact Fg d1 d2 i1 ha ho (Q8 h1)
theorem yh {T T':VT}{a:Operand}{l:List (Nat × TV)}{id off:Nat}{f:Nat→Bool}(ha:aL ah l a=.ptr id off)(ho:T.objs[id]?=some (.cells (fe f)))(h1:off<256)(hT:{T with objs:=T.objs.set id (.cells (fe (pm f off)))}=T'):br prog ah 0 T (.store 4 a (.const (.bool true))) l (.val (.tuple #[])) T':=by
 obtain ⟨inf,i1,i2⟩:=wH
 have h:=D0 (P:=prog) (G:=ah) (ro:=0) (T:=T) (t:=4) (a:=a) (x:=.const (.bool true)) (l:=l) (inf:=inf) (id:=id) (off:=off) (cs:=fe f) (new:= [.val (.bool true)]) i1 ha rfl ho (by rw [i2];rfl) (by rw [DW];exact h1) rfl (zero_le _)
 rw [Kg _ _ _ (by rw [DW];exact h1),Nl,hT] at h
 exact h
abbrev F8:=Nat × (Nat→Bool) × AtS
theorem Ui:bk prog ah (aI [(DS,zC),(wF,zD)]):=aQ λp hp=>by
 rcases mem_cons.1 hp with rfl | hp;exact F5 Q0
 obtain rfl:=mem_singleton.1 hp;exact F6 Rd
theorem Nq {b:Bs}(hb:IsB b){ok:Bool}{s:Int}{d:Bs}{o h m:Int}{hm xn:Bool}{xl:Bs}{c1 c2 c3:Bool}(hp:od b ok s d o h m hm xn xl c1 c2 c3)(K:KX)(hK:Kc 65 (dl b) ok s d o h m hm xn xl c1 c2 c3 K):VWx prog ah none 0 (aA prog ub 0) (aJ 65 ru (qi (dl b) 0)) ⟨[rt,A9,Ba,rt,Uh],[]⟩ [] K:=by
 have hA:=vi hb
 have hAl:=F3 (b:=b)
 have hsm:=hb.small
 let sl:F8→List TV:=λs=>qi (dl b) s.1
 let TT:F8→VT:=λs=>F7 s.2.2 s.2.1
 refine dW (f:=ub) (id:=0) (by kernel_rfl) 65 ru (λs:F8=>(eo b).length-s.1) sl TT (λs=>s.1≤(eo b).length∧s.2.2.Ok∧eS ((eo b).drop s.1) s.2.1 s.2.2=ue b) 5 0 (λ_ _=>⟨le_refl _,le_refl _⟩)
  (D4 b) (λs hs=> ?_) ⟨0,λ_=>false,rq⟩ ⟨zero_le _,pk,rfl⟩ K (λex vs T h=>Bb hp hK h)
 obtain ⟨k,f,a⟩:=s
 obtain ⟨hk,ha,hgo⟩:=hs
 simp only at hk ha hgo
 have hL:(dl b).length=(eo b).length:=by simp [dl]
 by_cases hlt:k<(eo b).length
 ·obtain ⟨fl,t,v,hat⟩:∃fl t v,(eo b)[k]?=some (fl,t,v):=⟨_,_,_,getElem?_eq_getElem hlt⟩
  obtain ⟨h1,h2,hv,hvl⟩:=hA _ (List.mem_of_getElem? hat)
  simp only at h1 h2 hv hvl
  have htn:t.toNat<256:=by omega
  have hdrop:(eo b).drop k=(fl,t,v)::(eo b).drop (k+1):=by
   rw [List.drop_eq_getElem_cons hlt]
   have:=getElem?_eq_getElem hlt
   rw [hat] at this;injection this with this;rw [←this]
  rw [hdrop] at hgo
  have hE:(dl b)[((k:Nat):Int).toNat]?=some (dk (fl,t,v)):=by
   rw [toNat_natCast];simp [dl,getElem?_map,hat]
  refine cg ag ac Ui ai (Kd (dl b) k fl t v t.toNat (f t.toNat) (fe f) (fe (pm f t.toNat)) a.o a.h a.m a.hm a.x _) ?_
  refine aU (decide_eq_true (show ((k:Nat):Int)<((dl b).length:Nat) by omega)) ⟨Nn rfl rfl (by omega) hE,qk rfl rfl h2.1 h2.2,Bc rfl rfl htn,?_⟩
  cases hf:f t.toNat
  ·refine ⟨qk rfl rfl h2.1 h2.2,yh rfl rfl htn rfl,⟨rfl,hv,ha.ren⟩,?_⟩
   rintro s O ⟨hs,hO⟩
   have hgo1:eS ((fl,t,v)::(eo b).drop (k+1)) f a=(if cI fl t v=0 then eS ((eo b).drop (k+1)) (pm f t.toNat) (a.put t v) else if cI fl t v=11 then .inl (11,[]) else .inl (cI fl t v,eC fl t v)):=by
    simp only [eS,hf,cond_false]
   rw [←hs] at hgo1
   refine ak (λe0=> ?_) (λe0=> ?_)
   ·replace e0:s=0:=bM e0
    have hO2:O=(a.put t v).vo:=by
     have:=hO e0
     unfold zz at this
     rw [this,F0]
    rw [bE (z:=((k:Nat):Int)+1) (by omega) (by omega)]
    refine ⟨rfl,rfl,⟨k+1,pm f t.toNat,a.put t v⟩,⟨hlt,ha.put t v,?_⟩,by simp only;omega,.inr ⟨?_,?_⟩⟩
    ·simp only;rw [←hgo,hgo1,if_pos e0]
    ·show VT.keep _ 5 0=F7 _ _
     simp only [VT.keep,take_succ_cons,take_zero,map_cons,map_nil,hO2,(ha.put t v).vo_ren,D3]
     rfl
    ·simp only [aB,TV.ren,rj hb,Tok.ren]
     simp only [sl,qi]
     rfl
   ·replace e0:¬s=0:=bB e0
    rw [if_neg e0] at hgo1
    refine ak (λe1=> ?_) (λe1=> ?_)
    ·replace e1:s=11:=bM e1
     rw [if_pos e1] at hgo1
     exact ⟨rfl,rfl,.inr ⟨11,[],_,_,_,k,by rw [←hgo,hgo1],.nil,rfl,rfl,by rw [e1];rfl⟩⟩
    ·replace e1:¬s=11:=bB e1
     rw [if_neg e1] at hgo1
     exact ⟨⟨h1,h2,hv,hvl⟩,rfl,rfl,.inr ⟨s,eC fl t v,_,_,_,k,by rw [←hgo,hgo1],.inr ⟨rfl,ma hv hvl⟩,rfl,rfl,rfl⟩⟩
  ·have hgo1:eS ((fl,t,v)::(eo b).drop (k+1)) f a=.inl (1,[]):=by
    simp only [eS,hf,cond_true]
   exact ⟨rfl,rfl,.inr ⟨1,[],_,_,_,k,by rw [←hgo,hgo1],.nil,rfl,rfl,rfl⟩⟩
 ·have hk2:k=(eo b).length:=by omega
  refine cg ag ac Ui ai (Kd (dl b) k 0 0 [] 0 false (fe f) [] a.o a.h a.m a.hm a.x _) ?_
  rw [hk2,List.drop_length] at hgo
  exact aO (decide_eq_false (show ¬((k:Nat):Int)<((dl b).length:Nat) by omega)) ⟨rfl,rfl,.inl ⟨a,f,k,hgo.symm,rfl,rfl,rfl⟩⟩
theorem F9 {b:Bs}(hb:IsB b){ok:Bool}{s:Int}{d:Bs}{o h m:Int}{hm xn:Bool}{xl:Bs}{c1 c2 c3:Bool}(hp:od b ok s d o h m hm xn xl c1 c2 c3):dD prog ah (OG 65 (dl b) ok s d o h m hm xn xl c1 c2 c3 (aA prog ub 0)):=bL λp hq=>by
 obtain rfl:=mem_singleton.1 hq
 exact ce λK hK=>Nq hb hp K hK
theorem Uj:bk prog ah (aI [(H9,zC),(wG,zD)]):=aQ λp hp=>by
 rcases mem_cons.1 hp with rfl | hp;exact F5 Q3
 obtain rfl:=mem_singleton.1 hp;exact F6 Re
theorem Nr {b:Bs}(hb:IsB b){ok:Bool}{s:Int}{d:Bs}{o h m:Int}{hm xn:Bool}{xl:Bs}{c1 c2 c3:Bool}(hp:od b ok s d o h m hm xn xl c1 c2 c3)(K:KX)(hK:Kc 68 (dl b) ok s d o h m hm xn xl c1 c2 c3 K):VWx prog ah none 0 (aA prog uc 0) (aJ 68 ru (qi (dl b) 0)) ⟨[rt,A9,Ba,rt,Uh],[]⟩ [] K:=by
 have hA:=vi hb
 have hAl:=F3 (b:=b)
 have hsm:=hb.small
 let sl:F8→List TV:=λs=>qi (dl b) s.1
 let TT:F8→VT:=λs=>F7 s.2.2 s.2.1
 refine dW (f:=uc) (id:=0) (by kernel_rfl) 68 ru (λs:F8=>(eo b).length-s.1) sl TT (λs=>s.1≤(eo b).length∧s.2.2.Ok∧eS ((eo b).drop s.1) s.2.1 s.2.2=ue b) 5 0 (λ_ _=>⟨le_refl _,le_refl _⟩)
  (D4 b) (λs hs=> ?_) ⟨0,λ_=>false,rq⟩ ⟨zero_le _,pk,rfl⟩ K (λex vs T h=>Bb hp hK h)
 obtain ⟨k,f,a⟩:=s
 obtain ⟨hk,ha,hgo⟩:=hs
 simp only at hk ha hgo
 have hL:(dl b).length=(eo b).length:=by simp [dl]
 by_cases hlt:k<(eo b).length
 ·obtain ⟨fl,t,v,hat⟩:∃fl t v,(eo b)[k]?=some (fl,t,v):=⟨_,_,_,getElem?_eq_getElem hlt⟩
  obtain ⟨h1,h2,hv,hvl⟩:=hA _ (List.mem_of_getElem? hat)
  simp only at h1 h2 hv hvl
  have htn:t.toNat<256:=by omega
  have hdrop:(eo b).drop k=(fl,t,v)::(eo b).drop (k+1):=by
   rw [List.drop_eq_getElem_cons hlt]
   have:=getElem?_eq_getElem hlt
   rw [hat] at this;injection this with this;rw [←this]
  rw [hdrop] at hgo
  have hE:(dl b)[((k:Nat):Int).toNat]?=some (dk (fl,t,v)):=by
   rw [toNat_natCast];simp [dl,getElem?_map,hat]
  refine cg ag ac Uj ai (Ke (dl b) k fl t v t.toNat (f t.toNat) (fe f) (fe (pm f t.toNat)) a.o a.h a.m a.hm a.x _) ?_
  refine aU (decide_eq_true (show ((k:Nat):Int)<((dl b).length:Nat) by omega)) ⟨No rfl rfl (by omega) hE,qk rfl rfl h2.1 h2.2,Bc rfl rfl htn,?_⟩
  cases hf:f t.toNat
  ·refine ⟨qk rfl rfl h2.1 h2.2,yh rfl rfl htn rfl,⟨rfl,hv,ha.ren⟩,?_⟩
   rintro s O ⟨hs,hO⟩
   have hgo1:eS ((fl,t,v)::(eo b).drop (k+1)) f a=(if cI fl t v=0 then eS ((eo b).drop (k+1)) (pm f t.toNat) (a.put t v) else if cI fl t v=11 then .inl (11,[]) else .inl (cI fl t v,eC fl t v)):=by
    simp only [eS,hf,cond_false]
   rw [←hs] at hgo1
   refine ak (λe0=> ?_) (λe0=> ?_)
   ·replace e0:s=0:=bM e0
    have hO2:O=(a.put t v).vo:=by
     have:=hO e0
     unfold zz at this
     rw [this,F0]
    rw [bE (z:=((k:Nat):Int)+1) (by omega) (by omega)]
    refine ⟨rfl,rfl,⟨k+1,pm f t.toNat,a.put t v⟩,⟨hlt,ha.put t v,?_⟩,by simp only;omega,.inr ⟨?_,?_⟩⟩
    ·simp only;rw [←hgo,hgo1,if_pos e0]
    ·show VT.keep _ 5 0=F7 _ _
     simp only [VT.keep,take_succ_cons,take_zero,map_cons,map_nil,hO2,(ha.put t v).vo_ren,D3]
     rfl
    ·simp only [aB,TV.ren,rj hb,Tok.ren]
     simp only [sl,qi]
     rfl
   ·replace e0:¬s=0:=bB e0
    rw [if_neg e0] at hgo1
    refine ak (λe1=> ?_) (λe1=> ?_)
    ·replace e1:s=11:=bM e1
     rw [if_pos e1] at hgo1
     exact ⟨rfl,rfl,.inr ⟨11,[],_,_,_,k,by rw [←hgo,hgo1],.nil,rfl,rfl,by rw [e1];rfl⟩⟩
    ·replace e1:¬s=11:=bB e1
     rw [if_neg e1] at hgo1
     exact ⟨⟨h1,h2,hv,hvl⟩,rfl,rfl,.inr ⟨s,eC fl t v,_,_,_,k,by rw [←hgo,hgo1],.inr ⟨rfl,ma hv hvl⟩,rfl,rfl,rfl⟩⟩
  ·have hgo1:eS ((fl,t,v)::(eo b).drop (k+1)) f a=.inl (1,[]):=by
    simp only [eS,hf,cond_true]
   exact ⟨rfl,rfl,.inr ⟨1,[],_,_,_,k,by rw [←hgo,hgo1],.nil,rfl,rfl,rfl⟩⟩
 ·have hk2:k=(eo b).length:=by omega
  refine cg ag ac Uj ai (Ke (dl b) k 0 0 [] 0 false (fe f) [] a.o a.h a.m a.hm a.x _) ?_
  rw [hk2,List.drop_length] at hgo
  exact aO (decide_eq_false (show ¬((k:Nat):Int)<((dl b).length:Nat) by omega)) ⟨rfl,rfl,.inl ⟨a,f,k,hgo.symm,rfl,rfl,rfl⟩⟩
theorem Ga {b:Bs}(hb:IsB b){ok:Bool}{s:Int}{d:Bs}{o h m:Int}{hm xn:Bool}{xl:Bs}{c1 c2 c3:Bool}(hp:od b ok s d o h m hm xn xl c1 c2 c3):dD prog ah (OG 68 (dl b) ok s d o h m hm xn xl c1 c2 c3 (aA prog uc 0)):=bL λp hq=>by
 obtain rfl:=mem_singleton.1 hq
 exact ce λK hK=>Nr hb hp K hK
theorem gt {b:Bs}{s:Int}{d:Bs}(h:fE b=.inl (s,d)){dz:TV}(hd:TVle dz (.vec 1 d .none)):TVle (.tup [.agg [.val (.int .i64 0),nF,.val (.int .u32 0),.val (.int .i64 0),.val (.bool false)],.agg [.val (.int .i64 3),.val (.int .i64 s),dz]]) (qh b):=by
 unfold qh
 rw [h]
 exact .tup ⟨.agg ⟨.refl _,.nil 1,.refl _,.refl _,.refl _,trivial⟩,.agg ⟨.refl _,.refl _,hd,trivial⟩,trivial⟩
theorem Gb {b:Bs}{a:AtS}(h:fE b=.inr a)(ha:a.Ok):TVle (.tup [a.tv,.agg [.val (.int .i64 0),.val (.int .i64 0),nF]]) (qh b):=by
 unfold qh
 rw [h]
 exact .tup ⟨ha.fix_le,.agg ⟨.refl _,.refl _,.nil 1,trivial⟩,trivial⟩
theorem zE (b:Bs)(f g:Nat→Option Nat)(hb:IsB b):(qh b).ren f g=qh b:=by
 have hd:∀s d,fE b=.inl (s,d)→bm f g d=d:=by
  intro s d h
  unfold fE at h
  cases ho:ij b<;>rw [ho] at h
  ·injection h with h;injection h with h1 h2;rw [←h2];rfl
  ·simp only [cond_true] at h
   have key:∀(l:List gQ) (f':Nat→Bool) (a:AtS),DX l→∀s d,eS l f' a=.inl (s,d)→bm f g d=d:=by
    intro l
    induction l with
    |nil=>intro f' a _ s d e;cases e
    |cons p l ih=>
     obtain ⟨fl,t,v⟩:=p
     intro f' a hl s d e
     unfold eS at e
     obtain ⟨_,_,hv,hvl⟩:=hl _ List.mem_cons_self
     cases hf:f' t.toNat<;>rw [hf] at e
     ·simp only [cond_false] at e
      split at e
      ·exact ih _ _ (λp hp=>hl p (List.mem_cons_of_mem _ hp)) s d e
      ·split at e
       ·injection e with e;injection e with e1 e2;rw [←e2];rfl
       ·injection e with e;injection e with e1 e2;rw [←e2];exact (ma hv hvl).ren f g
     ·injection e with e;injection e with e1 e2;rw [←e2];rfl
   split at h
   ·rename_i e he
    injection h with h;subst h
    exact key _ _ _ (vi hb) s d he
   ·rename_i a f' he
    unfold oc at h
    cases g1:f' 1<;>cases g2:f' 2<;>cases g3:f' 3<;>simp only [g1,g2,g3,cond_true,cond_false] at h<;>first | (cases h;done) | (injection h with h;injection h with e1 e2;rw [←e2];rfl)
 have ha:∀a,fE b=.inr a→a.Ok:=by
  intro a h
  unfold fE at h
  cases ho:ij b<;>rw [ho] at h
  ·cases h
  ·simp only [cond_true] at h
   split at h
   ·cases h
   ·rename_i a' f' he
    have:=vj _ _ _ pk _ _ he
    unfold oc at h
    cases g1:f' 1<;>cases g2:f' 2<;>cases g3:f' 3<;>simp only [g1,g2,g3,cond_true,cond_false] at h<;>first | (cases h;done) | (injection h with h;exact h▸this)
 unfold qh
 split
 ·rename_i s d h
  simp only [TV.ren,aB,cD,hd s d h,pk.fix_ren,Tok.ren]
 ·rename_i a h
  simp only [TV.ren,aB,cD,(ha a h).fix_ren,Tok.ren,bm]
theorem Uk {b:Bs}(hb:IsB b):VCx prog ah 0 ub [.vec 1 b .none] ⟨[],[]⟩ λx T'=>x=qh b∧T'=⟨[],[]⟩:=by
 have hS:bk prog ah (aI [(t3,zB)]):=aQ λp hp=>by obtain rfl:=mem_singleton.1 hp;exact F4 TR
 refine VCx.toLe (Q:=λT'=>T'=⟨[],[]⟩) (VCx.keepQ 0 0 (le_refl _) (le_refl _) ?_)
 cases hR:ue b with
 |inl e=>
  obtain ⟨s,d⟩:=e
  have hp:od b false s d 0 0 0 false false [] false false false:=.inl ⟨rfl,hR⟩
  refine aj ag ac hS (F9 hb hp) (OH b false s d 0 0 0 false false [] false false false _) ?_
  refine ⟨hb,ak (λho=>⟨rfl,⟨rfl,rfl,rfl,trivial,rfl,rfl,rfl⟩,λj dz rest tlz hd=>⟨?_,rfl⟩⟩) (λho=>⟨?_,rfl⟩)⟩
  ·have h1:fE b=.inl (s,d):=by
    unfold fE;rw [ho]
    simp only [cond_true]
    rw [show eS (eo b) (λ_=>false) rq=.inl (s,d) from hR]
   exact gt h1 (hd.le _ _)
  ·have h1:fE b=.inl (1,[]):=by unfold fE;rw [ho];rfl
   exact gt h1 (.refl _)
 |inr e=>
  obtain ⟨a,f⟩:=e
  have ha:=vj _ _ _ pk _ _ hR
  obtain ⟨xn,xl,hx,hl⟩:∃(xn:Bool) (xl:Bs),a.x=(bif xn then nF else .vec 1 xl .none)∧∀f g,bm f g xl=xl:=by
   rcases ha with h | ⟨l,h⟩
   ·exact ⟨true,[],h,λ_ _=>rfl⟩
   ·exact ⟨false,iV l,h,λf g=>eP f g l⟩
  obtain ⟨o,h,m,hm,x⟩:=a
  simp only at hx
  subst hx
  have hp:od b true 0 [] o h m hm xn xl (f 1) (f 2) (f 3):=.inr ⟨rfl,f,hR,rfl,rfl,rfl⟩
  have hgo:ij b=true→fE b=oc ⟨o,h,m,hm,bif xn then nF else .vec 1 xl .none⟩ f:=λho=>by
   unfold fE;rw [ho]
   simp only [cond_true]
   rw [show eS (eo b) (λ_=>false) rq=.inr (⟨o,h,m,hm,bif xn then nF else .vec 1 xl .none⟩,f) from hR]
  refine aj ag ac hS (F9 hb hp) (OH b true 0 [] o h m hm xn xl (f 1) (f 2) (f 3) _) ?_
  refine ⟨hb,ak (λho=>⟨rfl,⟨rfl,rfl,rfl,trivial,rfl,rfl,rfl⟩,λj c0 rm=> ?_⟩) (λho=>⟨?_,rfl⟩)⟩
  ·have h2:=hgo ho
   unfold oc at h2
   cases e1:f 1
   ·rw [e1] at h2
    cases xn<;>exact ⟨gt h2 (TVle.vec 1 _ _),rfl⟩
   ·cases e2:f 2
    ·rw [e1,e2] at h2
     cases xn<;>exact ⟨gt h2 (TVle.vec 1 _ _),rfl⟩
    ·cases e3:f 3
     ·rw [e1,e2,e3] at h2
      cases xn<;>exact ⟨gt h2 (TVle.vec 1 _ _),rfl⟩
     ·rw [e1,e2,e3] at h2
      have h3:=Gb h2 ha
      cases xn
      ·refine ⟨?_,rfl⟩
       simp only [TV.ren,aB,hl,Tok.ren]
       exact h3
      ·exact ⟨h3,rfl⟩
  ·have h1:fE b=.inl (1,[]):=by unfold fE;rw [ho];rfl
   exact gt h1 (.refl _)
theorem Ul {b:Bs}(hb:IsB b):VCx prog ah 0 uc [.vec 1 b .none] ⟨[],[]⟩ λx T'=>x=qh b∧T'=⟨[],[]⟩:=by
 have hS:bk prog ah (aI [(pi,zB)]):=aQ λp hp=>by obtain rfl:=mem_singleton.1 hp;exact F4 QS
 refine VCx.toLe (Q:=λT'=>T'=⟨[],[]⟩) (VCx.keepQ 0 0 (le_refl _) (le_refl _) ?_)
 cases hR:ue b with
 |inl e=>
  obtain ⟨s,d⟩:=e
  have hp:od b false s d 0 0 0 false false [] false false false:=.inl ⟨rfl,hR⟩
  refine aj ag ac hS (Ga hb hp) (OI b false s d 0 0 0 false false [] false false false _) ?_
  refine ⟨hb,ak (λho=>⟨rfl,⟨rfl,rfl,rfl,trivial,rfl,rfl,rfl⟩,λj dz rest tlz hd=>⟨?_,rfl⟩⟩) (λho=>⟨?_,rfl⟩)⟩
  ·have h1:fE b=.inl (s,d):=by
    unfold fE;rw [ho]
    simp only [cond_true]
    rw [show eS (eo b) (λ_=>false) rq=.inl (s,d) from hR]
   exact gt h1 (hd.le _ _)
  ·have h1:fE b=.inl (1,[]):=by unfold fE;rw [ho];rfl
   exact gt h1 (.refl _)
 |inr e=>
  obtain ⟨a,f⟩:=e
  have ha:=vj _ _ _ pk _ _ hR
  obtain ⟨xn,xl,hx,hl⟩:∃(xn:Bool) (xl:Bs),a.x=(bif xn then nF else .vec 1 xl .none)∧∀f g,bm f g xl=xl:=by
   rcases ha with h | ⟨l,h⟩
   ·exact ⟨true,[],h,λ_ _=>rfl⟩
   ·exact ⟨false,iV l,h,λf g=>eP f g l⟩
  obtain ⟨o,h,m,hm,x⟩:=a
  simp only at hx
  subst hx
  have hp:od b true 0 [] o h m hm xn xl (f 1) (f 2) (f 3):=.inr ⟨rfl,f,hR,rfl,rfl,rfl⟩
  have hgo:ij b=true→fE b=oc ⟨o,h,m,hm,bif xn then nF else .vec 1 xl .none⟩ f:=λho=>by
   unfold fE;rw [ho]
   simp only [cond_true]
   rw [show eS (eo b) (λ_=>false) rq=.inr (⟨o,h,m,hm,bif xn then nF else .vec 1 xl .none⟩,f) from hR]
  refine aj ag ac hS (Ga hb hp) (OI b true 0 [] o h m hm xn xl (f 1) (f 2) (f 3) _) ?_
  refine ⟨hb,ak (λho=>⟨rfl,⟨rfl,rfl,rfl,trivial,rfl,rfl,rfl⟩,λj c0 rm=> ?_⟩) (λho=>⟨?_,rfl⟩)⟩
  ·have h2:=hgo ho
   unfold oc at h2
   cases e1:f 1
   ·rw [e1] at h2
    cases xn<;>exact ⟨gt h2 (TVle.vec 1 _ _),rfl⟩
   ·cases e2:f 2
    ·rw [e1,e2] at h2
     cases xn<;>exact ⟨gt h2 (TVle.vec 1 _ _),rfl⟩
    ·cases e3:f 3
     ·rw [e1,e2,e3] at h2
      cases xn<;>exact ⟨gt h2 (TVle.vec 1 _ _),rfl⟩
     ·rw [e1,e2,e3] at h2
      have h3:=Gb h2 ha
      cases xn
      ·refine ⟨?_,rfl⟩
       simp only [TV.ren,aB,hl,Tok.ren]
       exact h3
      ·exact ⟨h3,rfl⟩
  ·have h1:fE b=.inl (1,[]):=by unfold fE;rw [ho];rfl
   exact gt h1 (.refl _)
def gL (b:Bs):Bool:=match fE b with
 | .inr _=>true
 | .inl _=>false
def fg (b:Bs):Int:=match fE b with
 | .inr _=>0
 | .inl e=>e.1
def fK (b:Bs):Bs:=match fE b with
 | .inr _=> []
 | .inl e=>e.2
def nG (b:Bs):AtS:=match fE b with
 | .inr a=>a.fix
 | .inl _=>rq.fix
def jd (b:Bs):Int:=(nG b).o
def je (b:Bs):Int:=(nG b).h
def jf (b:Bs):Int:=(nG b).m
def jg (b:Bs):Bool:=(nG b).hm
def fL (b:Bs):Bs:=match (nG b).x with
 | .vec _ l _=>l
 |_=> []
theorem Wv (a:AtS):∃l,a.fix.x=.vec 1 l .none:=by
 unfold AtS.fix
 simp only
 split
 ·exact ⟨_,rfl⟩
 ·exact ⟨_,rfl⟩
theorem Ki (b:Bs):(nG b).x=.vec 1 (fL b) .none:=by
 obtain ⟨l,hl⟩:∃l,(nG b).x=.vec 1 l .none:=by
  unfold nG
  split<;>exact Wv _
 rw [hl];unfold fL;rw [hl]
def zG (b:Bs):TV:=.agg [.val (.int .i64 (jd b)),.vec 1 (fL b) .none,.val (.int .u32 (je b)),.val (.int .i64 (jf b)),.val (.bool (jg b))]
theorem Gc (b:Bs):(nG b).tv=zG b:=by
 unfold AtS.tv zG
 rw [Ki];rfl
theorem Kj {b:Bs}(h:gL b=true):qh b=.tup [zG b,cD 0 0 []]:=by
 rw [←Gc]
 unfold qh nG
 unfold gL at h
 cases e:fE b with
 |inl x=>rw [e] at h;cases h
 |inr a=>rfl
theorem Kk {b:Bs}(h:gL b=false):qh b=.tup [rq.fix.tv,cD 3 (fg b) (fK b)]:=by
 unfold qh fg fK
 unfold gL at h
 cases e:fE b with
 |inl x=>rfl
 |inr a=>rw [e] at h;cases h
theorem Ns {b:Bs}(hb:IsB b)(f g:Nat→Option Nat):(zG b).ren f g=zG b:=by
 cases h:gL b
 ·rw [←Gc]
  unfold nG
  unfold gL at h
  cases e:fE b with
  |inl x=>exact pk.fix_ren f g
  |inr a=>rw [e] at h;cases h
 ·have h1:=zE b f g hb
  rw [Kj h] at h1
  simp only [TV.ren,aB] at h1
  injection h1 with h1;injection h1 with h1
theorem wI {b:Bs}(hb:IsB b)(f g:Nat→Option Nat):bm f g (fL b)=fL b:=by
 have h:=Ns hb f g
 simp only [zG,TV.ren,aB] at h
 injection h with h;injection h with _ h;injection h with h;injection h with _ h
theorem D5 {b:Bs}(hb:IsB b)(f g:Nat→Option Nat):bm f g (fK b)=fK b:=by
 cases h:gL b
 ·have h1:=zE b f g hb
  rw [Kk h] at h1
  simp only [TV.ren,aB,cD] at h1
  injection h1 with h1;injection h1 with _ h1;injection h1 with h1;injection h1 with h1;injection h1 with _ h1;injection h1 with _ h1;injection h1 with h1;injection h1 with _ h1
 ·unfold fK
  unfold gL at h
  cases e:fE b with
  |inl x=>rw [e] at h;cases h
  |inr a=>rfl
structure UpS where
 w:Bs
 o:Int
 x:Bs
 h:Int
 m:Int
 hm:Bool
 n:Bs
def UpS.cells (u:UpS):List TV:= [.vec 2 u.w .none,.val (.int .i64 u.o),.vec 1 u.x .none,.val (.int .u32 u.h),.val (.int .i64 u.m),.val (.bool u.hm),.vec 2 u.n .none]
def UpS.tv (u:UpS):TV:=.agg u.cells
def lu:UpS:=⟨[],0,[],0,0,false,[]⟩
def qF (b:Bs):Bs:=aC (aw 2 b 0) (aC (2:Nat) b 0) (ar (2:Nat) b 0)
def sA (b:Bs):Int:=ar (aw 2 b 0) (aC (2:Nat) b 0) (ar (2:Nat) b 0)
def fw (b:Bs):Bs:=bv (aw 2 b 0) (aC (2:Nat) b 0) (ar (2:Nat) b 0)
def b7 (b:Bs):Bs:=bv (aw 2 (qF b) (sA b)) (aC (2:Nat) (qF b) (sA b)) (ar (2:Nat) (qF b) (sA b))
def If (b:Bs):Bs:=aC (aw 2 (qF b) (sA b)) (aC (2:Nat) (qF b) (sA b)) (ar (2:Nat) (qF b) (sA b))
def Ig (b:Bs):Int:=ar (aw 2 (qF b) (sA b)) (aC (2:Nat) (qF b) (sA b)) (ar (2:Nat) (qF b) (sA b))
def dE (b:Bs):Bs:=bv (bo (If b) (Ig b)) (If b) (Ig b)
def OJ (b:Bs):Int:=ar (bo (If b) (Ig b)) (If b) (Ig b)
theorem Gd {b:Bs}(h:IsB b):IsB (qF b):=aH (aH h)
theorem D6 {b:Bs}(h:IsB b):IsB (fw b):=eg (aH h)
theorem uf {b:Bs}(h:IsB b):IsB (b7 b):=eg (aH (Gd h))
theorem D7 {b:Bs}(h:IsB b):IsB (dE b):=eg (aH (aH (Gd h)))
def f9 (b:Bs):(Int × Bs) ⊕ UpS:=
 if ¬OJ b=0 then .inl (1,[]) else
 bif fQ (fw b) then bif fQ (dE b) then
  (if (b7 b).length=0∧(aK (dE b)).length=0 then .inr {lu with w:=aK (fw b),n:=aK (dE b)}
  else bif gL (b7 b) then (if 0<(aK (dE b)).length then .inr ⟨aK (fw b),jd (b7 b),fL (b7 b),je (b7 b),jf (b7 b),jg (b7 b),aK (dE b)⟩ else .inr {lu with w:=aK (fw b),n:=aK (dE b)})
  else if 0<(aK (dE b)).length then .inl (fg (b7 b),fK (b7 b)) else if fg (b7 b)=3 then .inr {lu with w:=aK (fw b),n:=aK (dE b)} else .inl (fg (b7 b),fK (b7 b)))
 else .inl (10,[]) else .inl (10,[])
def vS (p:(Int × Bs) ⊕ UpS):TV:=match p with
 | .inl (s,d)=>.tup [lu.tv,cD 3 s d]
 | .inr u=>.tup [u.tv,cD 0 0 []]
def jY (b:Bs):TV:=vS (f9 b)
def Nt (u:UpS):Prop:=∀f g,u.tv.ren f g=u.tv
theorem Kl {b:Bs}(hb:IsB b){u:UpS}(h:f9 b=.inr u):Nt u:=by
 have e1:Nt {lu with w:=aK (fw b),n:=aK (dE b)}:=λf g=>by simp only [UpS.tv,UpS.cells,lu,TV.ren,aB,mK,Tok.ren,bm]
 have e2:Nt ⟨aK (fw b),jd (b7 b),fL (b7 b),je (b7 b),jf (b7 b),jg (b7 b),aK (dE b)⟩:=λf g=>by simp only [UpS.tv,UpS.cells,TV.ren,aB,mK,wI (uf hb),Tok.ren]
 unfold f9 at h
 split at h
 ·cases h
 cases g1:fQ (fw b)<;>simp only [g1,cond_true,cond_false] at h
 ·cases h
 cases g2:fQ (dE b)<;>simp only [g2,cond_true,cond_false] at h
 ·cases h
 split at h
 ·injection h with h;exact h▸e1
 cases g3:gL (b7 b)<;>simp only [g3,cond_true,cond_false] at h
 ·split at h
  ·cases h
  split at h
  ·injection h with h;exact h▸e1
  ·cases h
 ·split at h
  ·injection h with h;exact h▸e2
  ·injection h with h;exact h▸e1
theorem Km {b:Bs}(hb:IsB b){s:Int}{d:Bs}(h:f9 b=.inl (s,d))(f g:Nat→Option Nat):bm f g d=d:=by
 have hd:=D5 (uf hb) f g
 unfold f9 at h
 split at h
 ·injection h with h;injection h with _ h;rw [←h];rfl
 cases g1:fQ (fw b)<;>simp only [g1,cond_true,cond_false] at h
 ·injection h with h;injection h with _ h;rw [←h];rfl
 cases g2:fQ (dE b)<;>simp only [g2,cond_true,cond_false] at h
 ·injection h with h;injection h with _ h;rw [←h];rfl
 split at h
 ·cases h
 cases g3:gL (b7 b)<;>simp only [g3,cond_true,cond_false] at h
 ·split at h
  ·injection h with h;injection h with _ h;rw [←h];exact hd
  split at h
  ·cases h
  ·injection h with h;injection h with _ h;rw [←h];exact hd
 ·split at h<;>cases h
theorem zH {b:Bs}(hb:IsB b)(f g:Nat→Option Nat):(jY b).ren f g=jY b:=by
 unfold jY vS
 split
 ·rename_i s d h
  have:=Km hb h f g
  simp only [TV.ren,aB,cD,UpS.tv,UpS.cells,lu,bm,this,Tok.ren]
 ·rename_i u h
  have:=Kl hb h f g
  simp only [TV.ren,aB,cD,this,bm,Tok.ren]
abbrev Ge:=48
abbrev OK:=51
def zI:be:=λ_ ys T K=>match ys with
 |[.vec 1 b _]=>IsB b∧bif fQ b then K (.tup [.vec 2 (aK b) .none,.val (.bool true)]) T else K (.tup [.vec 2 (aK b) .none,.val (.bool false)]) T
 |_=>aR 83 default ys
def Gf:be:=λ_ ys T K=>match ys with
 |[.vec 1 b _]=>IsB b∧bif gL b then K (.tup [.agg [.val (.int .i64 (jd b)),.vec 1 (fL b) .none,.val (.int .u32 (je b)),.val (.int .i64 (jf b)),.val (.bool (jg b))],.agg [.val (.int .i64 0),.val (.int .i64 0),.vec 1 [] .none]]) T
  else K (.tup [.agg [.val (.int .i64 0),.vec 1 [] .none,.val (.int .u32 0),.val (.int .i64 0),.val (.bool false)],.agg [.val (.int .i64 3),.val (.int .i64 (fg b)),.vec 1 (fK b) .none]]) T
 |_=>aR 83 default ys
abbrev kM (v_14:Bs):VO:=(pV (fg v_14) (fK v_14))
abbrev B3 (v:Bs)(v_14:Bs)(v_18:Bs):VO:=(HB (aK v) (jd v_14) (fL v_14) (je v_14) (jf v_14) (jg v_14) (aK v_18))
abbrev B4 (v_14:Bs):VO:=(mG (jd v_14) (fL v_14) (je v_14) (jf v_14) (jg v_14))
theorem Ww (b:Bs)(Q:TV→VT→Prop):au prog ah (aI [(nC,iJ),(lR,ku .i64 2),(iD,AT),(HW,x5),(o9,zI),(uc,Gf)]) (bc [(999999,.dead,none)]) 300 aG 0 OK [.vec 1 b .none] ap Q=
 ((IsB (b)∧
 oT (b))∧
 (((@Eq (Bool) true true)∧
 (IsB (b)∧
 bq (b) 0))∧
 (∀z:Int,(∀nz:Int,(∀ez:Int,(((@Eq (Int) (z) (aw (2:Nat) (aa b (0:Int)) (0:Int)))∧
 ((@Eq (Int) (nz) (aX (↑(2:Nat):Int) b (0:Int) (0:Int)))∧
 (@Eq (Int) (ez) (ar (↑(2:Nat):Int) (aa b (0:Int)) (0:Int)))))→(((@Eq (Bool) true true)∧
 (IsB (b)∧
 bq (b) (nz)))∧
 (∀v:Bs,(∀nz_7:Int,(∀ez_8:Int,(((@Eq (Bs) (v) (bv z (aa b nz) ez))∧
 ((@Eq (Int) (nz_7) (aX z b nz ez))∧
 (@Eq (Int) (ez_8) (ar z (aa b nz) ez))))→(((@Eq (Bool) true true)∧
 (IsB (b)∧
 bq (b) (nz_7)))∧
 (∀z_10:Int,(∀nz_11:Int,(∀ez_12:Int,(((@Eq (Int) (z_10) (aw (2:Nat) (aa b nz_7) ez_8))∧
 ((@Eq (Int) (nz_11) (aX (↑(2:Nat):Int) b nz_7 ez_8))∧
 (@Eq (Int) (ez_12) (ar (↑(2:Nat):Int) (aa b nz_7) ez_8))))→(((@Eq (Bool) true true)∧
 (IsB (b)∧
 bq (b) (nz_11)))∧
 (∀v_14:Bs,(∀nz_15:Int,(∀ez_16:Int,(((@Eq (Bs) (v_14) (bv z_10 (aa b nz_11) ez_12))∧
 ((@Eq (Int) (nz_15) (aX z_10 b nz_11 ez_12))∧
 (@Eq (Int) (ez_16) (ar z_10 (aa b nz_11) ez_12))))→(((@Eq (Bool) true true)∧
 (IsB (b)∧
 bq (b) (nz_15)))∧
 (∀v_18:Bs,(∀nz_19:Int,(∀ez_20:Int,(((@Eq (Bs) (v_18) (bv (bo (aa b nz_15) ez_16) (aa b nz_15) ez_16))∧
 ((@Eq (Int) (nz_19) (aX (bo (aa b nz_15) ez_16) b nz_15 ez_16))∧
 (@Eq (Int) (ez_20) (ar (bo (aa b nz_15) ez_16) (aa b nz_15) ez_16))))→(bif aq neq (k6 ez_20 (0:Int))
 then Q N4 ⟨[eX,jQ,(.cells [(an b),(ae nz_19),(ae ez_20)]),eX,jQ],[]⟩
 else (IsB (v)∧
 (bif fQ v
 then (IsB (v_18)∧
 (bif fQ v_18
 then (bif aq eql (k6 (↑(length v_14):Int) (0:Int))
 then (bif aq eql (k6 (↑(length (aK v_18)):Int) (0:Int))
 then Q (kF (aK v) (aK v_18)) ⟨[(df (aK v) (aK v_18)),bh,(.cells [(an b),(ae nz_19),(ae ez_20)]),(df (aK v) (aK v_18))],[]⟩
 else (IsB (v_14)∧
 (bif gL v_14
 then (bif decide ((↑(length (aK v_18)):Int)>(0:Int))
 then Q (HC (aK v) (jd v_14) (fL v_14) (je v_14) (jf v_14) (jg v_14) (aK v_18)) ⟨[(B3 v v_14 v_18),bh,(.cells [(an b),(ae nz_19),(ae ez_20)]),(B3 v v_14 v_18),(B4 v_14),b8],[]⟩
 else Q (kF (aK v) (aK v_18)) ⟨[(df (aK v) (aK v_18)),bh,(.cells [(an b),(ae nz_19),(ae ez_20)]),(df (aK v) (aK v_18)),(B4 v_14),b8],[]⟩)
 else (bif aq neq (k6 (fg v_14) (3:Int))
 then Q (pU (fg v_14) (fK v_14)) ⟨[eX,(kM v_14),(.cells [(an b),(ae nz_19),(ae ez_20)]),(df (aK v) (aK v_18)),gU,(kM v_14)],[]⟩
 else (bif decide ((↑(length (aK v_18)):Int)>(0:Int))
 then Q (pU (fg v_14) (fK v_14)) ⟨[eX,(kM v_14),(.cells [(an b),(ae nz_19),(ae ez_20)]),(df (aK v) (aK v_18)),gU,(kM v_14)],[]⟩
 else (bif decide ((↑(length (aK v_18)):Int)>(0:Int))
 then Q (BD (aK v) (aK v_18)) ⟨[(pT (aK v) (aK v_18)),bh,(.cells [(an b),(ae nz_19),(ae ez_20)]),(pT (aK v) (aK v_18)),gU,(kM v_14)],[]⟩
 else Q (kF (aK v) (aK v_18)) ⟨[(df (aK v) (aK v_18)),bh,(.cells [(an b),(ae nz_19),(ae ez_20)]),(df (aK v) (aK v_18)),gU,(kM v_14)],[]⟩))))))
 else (IsB (v_14)∧
 (bif gL v_14
 then (bif decide ((↑(length (aK v_18)):Int)>(0:Int))
 then Q (HC (aK v) (jd v_14) (fL v_14) (je v_14) (jf v_14) (jg v_14) (aK v_18)) ⟨[(B3 v v_14 v_18),bh,(.cells [(an b),(ae nz_19),(ae ez_20)]),(B3 v v_14 v_18),(B4 v_14),b8],[]⟩
 else Q (kF (aK v) (aK v_18)) ⟨[(df (aK v) (aK v_18)),bh,(.cells [(an b),(ae nz_19),(ae ez_20)]),(df (aK v) (aK v_18)),(B4 v_14),b8],[]⟩)
 else (bif aq neq (k6 (fg v_14) (3:Int))
 then Q (pU (fg v_14) (fK v_14)) ⟨[eX,(kM v_14),(.cells [(an b),(ae nz_19),(ae ez_20)]),(df (aK v) (aK v_18)),gU,(kM v_14)],[]⟩
 else (bif decide ((↑(length (aK v_18)):Int)>(0:Int))
 then Q (pU (fg v_14) (fK v_14)) ⟨[eX,(kM v_14),(.cells [(an b),(ae nz_19),(ae ez_20)]),(df (aK v) (aK v_18)),gU,(kM v_14)],[]⟩
 else (bif decide ((↑(length (aK v_18)):Int)>(0:Int))
 then Q (BD (aK v) (aK v_18)) ⟨[(pT (aK v) (aK v_18)),bh,(.cells [(an b),(ae nz_19),(ae ez_20)]),(pT (aK v) (aK v_18)),gU,(kM v_14)],[]⟩
 else Q (kF (aK v) (aK v_18)) ⟨[(df (aK v) (aK v_18)),bh,(.cells [(an b),(ae nz_19),(ae ez_20)]),(df (aK v) (aK v_18)),gU,(kM v_14)],[]⟩))))))
 else Q BC ⟨[eX,pS,(.cells [(an b),(ae nz_19),(ae ez_20)]),(df (aK v) (aK v_18)),eX,pS],[]⟩))
 else Q BC ⟨[eX,pS,(.cells [(an b),(ae nz_19),(ae ez_20)]),(N2 (aK v)),eX,pS],[]⟩))))))))))))))))))))))))))))):=by kernel_rfl
theorem Gg {f:FuncId}(h:∀b,IsB b→VCx prog ah 0 f [.vec 1 b .none] ⟨[],[]⟩ λx T'=>x=xY b∧T'=⟨[],[]⟩):∀ro ys T K,zI ro ys T K→VCx prog ah ro f ys T K:=by
 intro ro ys T K hw
 unfold zI at hw
 split at hw
 ·rename_i b tok
  refine VCx.loosePure aP (h b hw.1) (by simp [cA]) (by simp [aB,TV.ren,hw.1.ren,Tok.ren]) (λf h=>QF b f h) ?_
  have h2:=hw.2
  unfold xY
  cases hh:fQ b<;>rw [hh] at h2<;>exact h2
 ·exact hw.elim
theorem Kn {f:FuncId}(h:∀{b:Bs},IsB b→VCx prog ah 0 f [.vec 1 b .none] ⟨[],[]⟩ λx T'=>x=qh b∧T'=⟨[],[]⟩):∀ro ys T K,Gf ro ys T K→VCx prog ah ro f ys T K:=by
 intro ro ys T K hw
 unfold Gf at hw
 split at hw
 ·rename_i b tok
  refine VCx.loosePure aP (h hw.1) (by simp [cA]) (by simp [aB,TV.ren,hw.1.ren,Tok.ren]) (λf h=>zE b f h hw.1) ?_
  have h2:=hw.2
  cases hh:gL b<;>rw [hh] at h2
  ·rw [Kk hh];exact h2
  ·rw [Kj hh];exact h2
 ·exact hw.elim
theorem Bd {n:Nat}(h:decide ((n:Int)>0)=true):0<n:=by
 have:=of_decide_eq_true h;omega
theorem qG {n:Nat}(h:decide ((n:Int)>0)=false):¬0<n:=by
 have:=of_decide_eq_false h;omega
section
variable {b:Bs}
theorem pn {s:Int}{d:Bs}{dz:TV}{T':VT}(h:f9 b=.inl (s,d))(hd:TVle (dz.ren (ax 0) (ax 0)) (.vec 1 d .none)):TVle ((TV.tup [.agg [.val (.slice none 0 0),.val (.int .i64 0),.val (.slice none 0 0),.val (.int .u32 0),.val (.int .i64 0),.val (.bool false),.val (.slice none 0 0)],.agg [.val (.int .i64 3),.val (.int .i64 s),dz]]).ren (ax 0) (ax 0)) (jY b)∧T'.keep 0 0=⟨[],[]⟩:=by
 unfold jY vS
 rw [h]
 exact ⟨.tup ⟨.agg ⟨.nil 2,.refl _,.nil 1,.refl _,.refl _,.refl _,.nil 2,trivial⟩,.agg ⟨.refl _,.refl _,hd,trivial⟩,trivial⟩,rfl⟩
theorem rx {T':VT}{pz:TV}(hG:IsB (fw b))(hN:IsB (dE b))(h:f9 b=.inr {lu with w:=aK (fw b),n:=aK (dE b)})(hp:TVle (pz.ren (ax 0) (ax 0)) (.vec 1 [] .none)):TVle ((TV.tup [.agg [.vec 2 (aK (fw b)) .none,.val (.int .i64 0),pz,.val (.int .u32 0),.val (.int .i64 0),.val (.bool false),.vec 2 (aK (dE b)) .none],.agg [.val (.int .i64 0),.val (.int .i64 0),.val (.slice none 0 0)]]).ren (ax 0) (ax 0)) (jY b)∧T'.keep 0 0=⟨[],[]⟩:=by
 unfold jY vS
 rw [h]
 refine ⟨?_,rfl⟩
 simp only [TV.ren,aB,mK,Tok.ren]
 exact .tup ⟨.agg ⟨.refl _,.refl _,hp,.refl _,.refl _,.refl _,.refl _,trivial⟩,.agg ⟨.refl _,.refl _,.nil 1,trivial⟩,trivial⟩
theorem Gi {T':VT}(hG:IsB (fw b))(hA:IsB (b7 b))(hN:IsB (dE b))(h:f9 b=.inr ⟨aK (fw b),jd (b7 b),fL (b7 b),je (b7 b),jf (b7 b),jg (b7 b),aK (dE b)⟩):TVle ((TV.tup [.agg [.vec 2 (aK (fw b)) .none,.val (.int .i64 (jd (b7 b))),.vec 1 (fL (b7 b)) .none,.val (.int .u32 (je (b7 b))),.val (.int .i64 (jf (b7 b))),.val (.bool (jg (b7 b))),.vec 2 (aK (dE b)) .none],.agg [.val (.int .i64 0),.val (.int .i64 0),.val (.slice none 0 0)]]).ren (ax 0) (ax 0)) (jY b)∧T'.keep 0 0=⟨[],[]⟩:=by
 unfold jY vS
 rw [h]
 refine ⟨?_,rfl⟩
 simp only [TV.ren,aB,mK,wI hA,Tok.ren]
 exact .tup ⟨.refl _,.agg ⟨.refl _,.refl _,.nil 1,trivial⟩,trivial⟩
end
theorem Ko {b:Bs}{z ez z2 e2 z3 e3 e4 e5 e6:Int}{r1 v r2 r3 a r4 n:Bs}(h1:z=aw (2:Nat) b 0∧r1=aC ((2:Nat):Int) b 0∧ez=ar ((2:Nat):Int) b 0)(h2:v=bv z r1 ez∧r2=aC z r1 ez∧e2=ar z r1 ez)(h3:z3=aw (2:Nat) r2 e2∧r3=aC ((2:Nat):Int) r2 e2∧e3=ar ((2:Nat):Int) r2 e2)(h4:a=bv z3 r3 e3∧r4=aC z3 r3 e3∧e4=ar z3 r3 e3)(h5:n=bv (bo r4 e4) r4 e4∧e5=ar (bo r4 e4) r4 e4):
  v=fw b∧a=b7 b∧n=dE b∧e5=OJ b:=by
 obtain ⟨rfl,rfl,rfl⟩:=h1
 obtain ⟨rfl,rfl,rfl⟩:=h2
 obtain ⟨rfl,rfl,rfl⟩:=h3
 obtain ⟨rfl,rfl,rfl⟩:=h4
 obtain ⟨rfl,rfl⟩:=h5
 exact ⟨rfl,rfl,rfl,rfl⟩
theorem Um {b:Bs}(hb:IsB b):VCx prog ah 0 OK [.vec 1 b .none] ⟨[],[]⟩ λx T'=>x=jY b∧T'=⟨[],[]⟩:=by
 have hS:bk prog ah (aI [(nC,iJ),(lR,ku .i64 2),(iD,AT),(HW,x5),(o9,zI),(uc,Gf)]):=aQ λp hp=>by
  rcases mem_cons.1 hp with rfl | hp;exact oA
  rcases mem_cons.1 hp with rfl | hp;exact λro ys T K h=>vc _ _ _ _ (nw h)
  rcases mem_cons.1 hp with rfl | hp;exact λro ys T K h=>oZ _ _ _ _ (Dn h)
  rcases mem_cons.1 hp with rfl | hp;exact λro ys T K h=>S9 _ _ _ _ (JG h)
  rcases mem_cons.1 hp with rfl | hp;exact Gg λ_ h=>Tt h
  obtain rfl:=mem_singleton.1 hp;exact Kn Ul
 refine VCx.toLe (Q:=λT'=>T'=⟨[],[]⟩) (VCx.keepQ 0 0 (le_refl _) (le_refl _) (aj ag ac hS ai (Ww b _) ?_))
 have h0:=Dv hb
 refine ⟨⟨hb,hb.small⟩,⟨rfl,hb,h0⟩,?_⟩
 intro z nz ez hq1
 have i1:bq b nz:=by rw [hq1.2.1];exact bF h0 _ _
 have r1:aa b nz=aC ((2:Nat):Int) (aa b 0) 0:=by rw [hq1.2.1];exact cm h0 _ _
 refine ⟨⟨rfl,hb,i1⟩,?_⟩
 intro v n2 e2 hq2
 have i2:bq b n2:=by rw [hq2.2.1];exact bF i1 _ _
 have r2:aa b n2=aC z (aa b nz) ez:=by rw [hq2.2.1];exact cm i1 _ _
 refine ⟨⟨rfl,hb,i2⟩,?_⟩
 intro z3 n3 e3 hq3
 have i3:bq b n3:=by rw [hq3.2.1];exact bF i2 _ _
 have r3:aa b n3=aC ((2:Nat):Int) (aa b n2) e2:=by rw [hq3.2.1];exact cm i2 _ _
 refine ⟨⟨rfl,hb,i3⟩,?_⟩
 intro v4 n4 e4 hq4
 have i4:bq b n4:=by rw [hq4.2.1];exact bF i3 _ _
 have r4:aa b n4=aC z3 (aa b n3) e3:=by rw [hq4.2.1];exact cm i3 _ _
 refine ⟨⟨rfl,hb,i4⟩,?_⟩
 intro v5 n5 e5 hq5
 have hr0:aa b 0=b:=rfl
 rw [hr0] at hq1 r1
 obtain ⟨rfl,rfl,rfl,rfl⟩:=Ko (z2:=0) (e6:=0) ⟨hq1.1,r1,hq1.2.2⟩ ⟨hq2.1,r2,hq2.2.2⟩ ⟨hq3.1,r3,hq3.2.2⟩ ⟨hq4.1,r4,hq4.2.2⟩ ⟨hq5.1,hq5.2.2⟩
 have hG:=D6 hb
 have hA:=uf hb
 have hN:=D7 hb
 have hL:∀(c:Bs) f g,bm f g (aK c)=aK c:=λc f g=>mK c f g
 have hP:=λf g=>wI hA f g
 have hD:=λf g=>D5 hA f g
 refine ak (λc1=> ?_) (λc1=> ?_)
 ·exact pn (by unfold f9;rw [if_pos (bX c1)]) (.nil 1)
 replace c1:OJ b=0:=bZ c1
 refine ⟨hG,ak (λc2=> ?_) (λc2=> ?_)⟩
 rotate_left
 ·exact pn (by unfold f9;rw [if_neg (λc=>c c1),c2];rfl) (.nil 1)
 refine ⟨hN,ak (λc3=> ?_) (λc3=> ?_)⟩
 rotate_left
 ·exact pn (by unfold f9;rw [if_neg (λc=>c c1),c2,c3];rfl) (.nil 1)
 have hu:f9 b=(if (b7 b).length=0∧(aK (dE b)).length=0 then .inr {lu with w:=aK (fw b),n:=aK (dE b)}
  else bif gL (b7 b) then (if 0<(aK (dE b)).length then .inr ⟨aK (fw b),jd (b7 b),fL (b7 b),je (b7 b),jf (b7 b),jg (b7 b),aK (dE b)⟩ else .inr {lu with w:=aK (fw b),n:=aK (dE b)})
  else if 0<(aK (dE b)).length then .inl (fg (b7 b),fK (b7 b)) else if fg (b7 b)=3 then .inr {lu with w:=aK (fw b),n:=aK (dE b)} else .inl (fg (b7 b),fK (b7 b))):=by
  unfold f9;rw [if_neg (λc=>c c1),c2,c3];rfl
 refine ak (λc4=> ?_) (λc4=> ?_)
 ·replace c4:=bM c4
  refine ak (λc5=> ?_) (λc5=> ?_)
  ·exact rx hG hN (by rw [hu,if_pos ⟨ofNat_inj.1 c4,ofNat_inj.1 (bM c5)⟩]) (.nil 1)
  have hne:¬((b7 b).length=0∧(aK (dE b)).length=0):=λh=>bB c5 (ofNat_inj.2 h.2)
  refine ⟨hA,ak (λc6=> ?_) (λc6=> ?_)⟩
  ·refine ak (λc7=> ?_) (λc7=> ?_)
   ·exact Gi hG hA hN (by rw [hu,if_neg hne,c6];simp only [cond_true];rw [if_pos (Bd c7)])
   ·exact rx hG hN (by rw [hu,if_neg hne,c6];simp only [cond_true];rw [if_neg (qG c7)]) (.nil 1)
  ·refine ak (λc8=> ?_) (λc8=> ?_)
   ·exact pn (by rw [hu,if_neg hne,c6];simp only [cond_false];rw [if_neg (bX c8),ite_self]) (by simp only [TV.ren,hD,Tok.ren];exact .refl _)
   refine ak (λc7=> ?_) (λc7=> ?_)
   ·exact pn (by rw [hu,if_neg hne,c6];simp only [cond_false];rw [if_pos (Bd c7)]) (by simp only [TV.ren,hD,Tok.ren];exact .refl _)
   ·exact aO c7 (rx hG hN (by rw [hu,if_neg hne,c6];simp only [cond_false];rw [if_neg (qG c7),if_pos (bZ c8)]) (.nil 1))
 ·have hne:¬((b7 b).length=0∧(aK (dE b)).length=0):=λh=>bB c4 (ofNat_inj.2 h.1)
  refine ⟨hA,ak (λc6=> ?_) (λc6=> ?_)⟩
  ·refine ak (λc7=> ?_) (λc7=> ?_)
   ·exact Gi hG hA hN (by rw [hu,if_neg hne,c6];simp only [cond_true];rw [if_pos (Bd c7)])
   ·exact rx hG hN (by rw [hu,if_neg hne,c6];simp only [cond_true];rw [if_neg (qG c7)]) (.nil 1)
  ·refine ak (λc8=> ?_) (λc8=> ?_)
   ·exact pn (by rw [hu,if_neg hne,c6];simp only [cond_false];rw [if_neg (bX c8),ite_self]) (by simp only [TV.ren,hD,Tok.ren];exact .refl _)
   refine ak (λc7=> ?_) (λc7=> ?_)
   ·exact pn (by rw [hu,if_neg hne,c6];simp only [cond_false];rw [if_pos (Bd c7)]) (by simp only [TV.ren,hD,Tok.ren];exact .refl _)
   ·exact aO c7 (rx hG hN (by rw [hu,if_neg hne,c6];simp only [cond_false];rw [if_neg (qG c7),if_pos (bZ c8)]) (.nil 1))
def FzLe (T:VT)(x y:TV)(T2:VT):Prop:=∀g w u,RW g T w→VR g w x u→∃g',Evo g w g' w∧RW g' T2 w∧VR g' w y u
def FzL (T:VT)(l m:List TV)(T2:VT):Prop:=∀g w us,RW g T w→VRs g w l us→∃g',Evo g w g' w∧RW g' T2 w∧VRs g' w m us
theorem FzLe.le {T:VT}{x y:TV}(h:TVle x y):FzLe T x y T:=λg w u r hv=>⟨g,Evo.refl g w,r,h g w u hv⟩
theorem FzLe.row {T:VT}{id size off n:Nat}{es:List (List TV)}(h:cd T size (.row size id off n)=some es):FzLe T (.row size id off n) (.vec size es .none) (T.kill id):=λg w u r hv=>n6 r h hv
theorem FzL.nil {T:VT}:FzL T [] [] T:=λg w us r hv=>⟨g,Evo.refl g w,r,hv⟩
theorem FzL.cons {T T1 T2:VT}{x y:TV}{l m:List TV}(h1:FzLe T x y T1)(h2:FzL T1 l m T2):FzL T (x::l) (y::m) T2:=by
 intro g w us r hv
 match us,hv with
 |[],hv=>have:=hv.1;simp at this
 |u::us,hv=>
  have hu:VR g w x u:=hv.2 0 x u rfl rfl
  have hus:VRs g w l us:=⟨by have:=hv.1;simpa using this,λj a v ha hv2=>hv.2 (j+1) a v (by simpa using ha) (by simpa using hv2)⟩
  obtain ⟨g1,e1,r1,v1⟩:=h1 g w u r hu
  obtain ⟨g2,e2,r2,v2⟩:=h2 g1 w us r1 (hus.mono e1)
  exact ⟨g2,e1.trans e2,r2,VRs.cons (v1.mono e2) v2⟩
theorem FzL.le {T T2:VT}{x:TV}{l m:List TV}(h2:FzL T l m T2):FzL T (x::l) (x::m) T2:=FzL.cons (.le (.refl x)) h2
theorem FzLe.agg {T T2:VT}{l m:List TV}(h:FzL T l m T2):FzLe T (.agg l) (.agg m) T2:=λg w u r hv=>by
 cases hv with
 |agg hl hv=>
  obtain ⟨g',e',r',h1,h2⟩:=h g w _ r ⟨hl,hv⟩
  exact ⟨g',e',r',.agg h1 h2⟩
theorem FzLe.tup {T T2:VT}{l m:List TV}(h:FzL T l m T2):FzLe T (.tup l) (.tup m) T2:=λg w u r hu=>by
 obtain ⟨us,rfl,hv⟩:=hu.tup_inv
 obtain ⟨g',e',r',h1,h2⟩:=h g w _ r hv
 exact ⟨g',e',r',.tup h1 h2⟩
theorem VCx.toFz {P:Program}{G:aV}{f:FuncId}{xs:List TV}{T:VT}{y:TV}{Q:VT→Prop}(h:VCx P G 0 f xs T λx T'=>∃T2,FzLe T' x y T2∧T'.objs.length≤T2.objs.length∧Q T2):VCx P G 0 f xs T λx T'=>x=y∧Q T':=by
 intro g w us rw0 hG hx
 refine Calls.mono (h g w us rw0 hG hx) ?_
 rintro e w' ⟨v,x,g',T',he,⟨T2,hq,hl,hQ⟩,e',r',hv,hfx⟩
 obtain ⟨g2,e2,r2,v2⟩:=hq g' w' v r' hv
 exact ⟨v,_,g2,T2,he,⟨rfl,hQ⟩,e'.trans e2,r2,v2,⟨Nat.le_trans hfx.len hl,λi hi=>absurd hi (Nat.not_lt_zero i),λi o b hi=>absurd hi (Nat.not_lt_zero i)⟩⟩
theorem VCx.anyG {P:Program}{G:aV}{ro:Nat}{f:FuncId}{xs:List TV}{T:VT}{Q:TV→VT→Prop}(h:VCx P (λ_=>none) ro f xs T Q):VCx P G ro f xs T Q:=λg w us rw0 _ hx=>h g w us rw0 (λn cs hn=>by cases hn) hx
section
open Go.ChangeShapes Go.WideShapes Go.ChangeAt Go.RowKit Go.Joins Go.Deep
section
variable {H:Type}{enc:TypeId × Value→H}{P:Program}{w:World}{base:Nat}{spare:Nat→Bool}{held:Bool}
end
end
section
open Go.ChangeShapes Go.WideShapes Go.ChangeAt Go.RowKit Go.Joins
theorem Nu:ownKnob prog.godebug=none:=by kernel_rfl
theorem ug:laidOutB prog=true:=by kernel_rfl
end
section
open Go.ChangeShapes Go.WideShapes Go.ChangeAt Go.RowKit Go.Joins Go.Deep
def aS:aV:=λn=>bif beq n 0 then some [.val (.int .i64 0),.val (.int .i64 29),.val (.int .i64 23),.val (.int .i64 21),.val (.int .i64 19)] else none
theorem bH:dd aS:=λn cs h=>by
 unfold aS at h
 cases hb:beq n 0 with
 |false=>rw [hb] at h;cases h
 |true=>
  rw [hb] at h
  injection h with h;subst h
  exact ⟨[.int .i64 0,.int .i64 29,.int .i64 23,.int .i64 21,.int .i64 19],rfl⟩
def po:List Int:= [0,29,23,21,19]
theorem yi:prog.globalNamed "fairway/message.least" =some 0:=by kernel_rfl
theorem Kp {w:World}(h:Lib.TabIs prog w "fairway/message.least" .i64 po):GOk aS (kR w) w:=by
 intro n cs hn
 unfold aS at hn
 cases hb:beq n 0 with
 |false=>rw [hb] at hn;cases hn
 |true=>
  rw [hb] at hn
  have:=Nat.eq_of_beq_eq_true hb
  subst this
  injection hn with hn;subst hn
  have cell:∀(j:Nat) u,(po.map λz=>Value.int .i64 z)[j]?=some u→w.cell? ⟨0,0+j,none⟩=some u:=λj u hj=>by
   have hlt:j<po.length:=by
    have:=(List.getElem?_eq_some_iff.1 hj).1
    simpa using this
   have h1:=h.cell yi j hlt
   rw [zero_add,h1,←hj,getElem?_map,List.getD_eq_getElem?_getD,getElem?_eq_getElem hlt]
   rfl
  refine VR.mk_elt (us:=po.map λz=>Value.int .i64 z) (VRs.vals (kR w) w [.int .i64 0,.int .i64 29,.int .i64 23,.int .i64 21,.int .i64 19]) (λj hj=> ?_) cell (λu hu=> ?_)
  ·show (w.cell? ⟨_,0+j,none⟩).isSome=true
   have hj':j<(po.map λz=>Value.int .i64 z).length:=hj
   rw [cell j _ (getElem?_eq_getElem hj')];rfl
  ·obtain ⟨z,_,rfl⟩:=List.mem_map.1 hu
   rfl
end
def cq (b:Bs):Bool:=(b.take 16).all λr=>decide (hZ r=255)
def fG (b:Bs):Int:=cQ 2 (b.drop 16)
def nP (b:Bs):Int:=hZ ((b.drop 18).headD [])
def mc (b:Bs):Bs:=(b.drop 16).take 2
def yj (b:Bs):Bs:=(b.drop 18).take 1
def sB (k:Int):Int:=if k=1 then 29 else if k=2 then 23 else if k=3 then 21 else 19
def md (b:Bs):(Int × Bs) ⊕ (Int × Int):=
 if b.length<19 then .inr (0,0) else bif cq b then
  (if fG b<19∨fG b>4096 then .inl (2,mc b) else if nP b<1∨nP b>4 then .inl (3,yj b)
  else if fG b<sB (nP b)∨(nP b=4∧¬fG b=19) then .inl (2,mc b) else .inr (fG b,nP b))
 else .inl (1,[])
def cK (b:Bs):Bool:=match md b with
 | .inr _=>true
 | .inl _=>false
def bA (b:Bs):Int:=match md b with
 | .inr p=>p.1
 | .inl _=>0
def cU (b:Bs):Int:=match md b with
 | .inr p=>p.2
 | .inl _=>0
def ga (b:Bs):Int:=match md b with
 | .inr _=>0
 | .inl p=>p.1
def fH (b:Bs):Bs:=match md b with
 | .inr _=> []
 | .inl p=>p.2
def D8 (p:(Int × Bs) ⊕ (Int × Int)):TV:=match p with
 | .inl (s,d)=>.tup [.val (.int .i64 0),.val (.int .i64 0),cD 1 s d]
 | .inr (n,k)=>.tup [.val (.int .i64 n),.val (.int .i64 k),cD 0 0 []]
def mp (b:Bs):TV:=D8 (md b)
theorem yk {b:Bs}(hb:IsB b):IsB (fH b):=by
 have h1:IsB (mc b):=(hb.drop 16).take 2
 have h2:IsB (yj b):=(hb.drop 18).take 1
 unfold fH md
 split
 ·exact .nil
 ·rename_i p hp
  split at hp
  ·cases hp
  cases h:cq b<;>rw [h] at hp<;>simp only [cond_true,cond_false] at hp
  ·injection hp with hp;rw [←hp];exact .nil
  split at hp
  ·injection hp with hp;rw [←hp];exact h1
  split at hp
  ·injection hp with hp;rw [←hp];exact h2
  split at hp
  ·injection hp with hp;rw [←hp];exact h1
  ·cases hp
theorem ry {b:Bs}(h:cK b=true):mp b=.tup [.val (.int .i64 (bA b)),.val (.int .i64 (cU b)),cD 0 0 []]:=by
 unfold mp D8 bA cU
 unfold cK at h
 cases e:md b with
 |inl x=>rw [e] at h;cases h
 |inr p=>rfl
theorem rz {b:Bs}(h:cK b=false):mp b=.tup [.val (.int .i64 0),.val (.int .i64 0),cD 1 (ga b) (fH b)]:=by
 unfold mp D8 ga fH
 unfold cK at h
 cases e:md b with
 |inl x=>rfl
 |inr p=>rw [e] at h;cases h
theorem lv {b:Bs}(hb:IsB b)(f g:Nat→Option Nat):(mp b).ren f g=mp b:=by
 cases h:cK b
 ·rw [rz h];simp only [TV.ren,aB,cD,(yk hb).ren,Tok.ren]
 ·rw [ry h];simp only [TV.ren,aB,cD,bm,Tok.ren]
structure OpS where
 n:Int
 h:Int
 i:Int
 l:Bs
def Gj:OpS:=⟨0,0,0,[]⟩
def OpS.cells (o:OpS):List TV:= [.val (.int .i64 o.n),.val (.int .i64 o.h),.val (.int .u32 o.i),.vec 2 o.l .none]
def XO (x:TV):(Int × Bs) ⊕ OpS:=match x with
 | .tup [.agg [.val (.int _ n),.val (.int _ h),.val (.int _ i),.vec _ l _],.agg [.val (.int _ c),.val (.int _ s),.vec _ d _]]=>if c=0 then .inr ⟨n,h,i,l⟩ else .inl (s,d)
 |_=>.inl (0,[])
def sY (b:Bs)(pas:Int):(Int × Bs) ⊕ OpS:=XO (fZ b pas)
def Un (p:(Int × Bs) ⊕ OpS):TV:=match p with
 | .inl (s,d)=>.tup [.agg Gj.cells,cD 2 s d]
 | .inr o=>.tup [.agg o.cells,cD 0 0 []]
theorem wJ (b:Bs)(pas:Int)(hb:IsB b):(∃s d,fZ b pas=en s d∧∀f g,bm f g d=d)∨(∃n h i l,fZ b pas=rh n h i l∧∀f g,bm f g l=l):=by
 unfold fZ
 split
 ·exact .inl ⟨_,_,rfl,λ_ _=>rfl⟩
 split
 ·exact .inl ⟨_,_,rfl,λ_ _=>rfl⟩
 unfold n9 fJ
 split
 ·exact .inl ⟨_,_,rfl,λ_ _=>rfl⟩
 split
 ·exact .inl ⟨_,_,rfl,λ_ _=>rfl⟩
 split
 ·exact .inl ⟨_,_,rfl,λ_ _=>rfl⟩
 split
 ·exact .inl ⟨_,_,rfl,λ_ _=>rfl⟩
 split
 ·exact .inl ⟨_,_,rfl,λ_ _=>rfl⟩
 cases h:eA _ _
 ·exact .inl ⟨_,_,rfl,λ_ _=>rfl⟩
 ·exact .inr ⟨_,_,_,_,rfl,λf g=>zx (aH (aH (aH (aH (aH hb))))) _ f g⟩
theorem Kq (b:Bs)(pas:Int)(hb:IsB b):fZ b pas=Un (sY b pas):=by
 unfold sY
 rcases wJ b pas hb with ⟨s,d,h,_⟩ | ⟨n,hh,i,l,h,_⟩<;>rw [h]<;>rfl
def gl (b:Bs)(pas:Int):Bool:=match sY b pas with
 | .inr _=>true
 | .inl _=>false
def ui (b:Bs)(pas:Int):OpS:=match sY b pas with
 | .inr o=>o
 | .inl _=>Gj
def zJ (b:Bs)(pas:Int):Int:=(ui b pas).n
def zK (b:Bs)(pas:Int):Int:=(ui b pas).h
def zL (b:Bs)(pas:Int):Int:=(ui b pas).i
def pp (b:Bs)(pas:Int):Bs:=(ui b pas).l
def pq (b:Bs)(pas:Int):Int:=match sY b pas with
 | .inr _=>0
 | .inl p=>p.1
def j9 (b:Bs)(pas:Int):Bs:=match sY b pas with
 | .inr _=> []
 | .inl p=>p.2
theorem D9 {b:Bs}{pas:Int}(hb:IsB b)(h:gl b pas=true):fZ b pas=.tup [.agg (ui b pas).cells,cD 0 0 []]:=by
 rw [Kq b pas hb]
 unfold Un ui
 unfold gl at h
 cases e:sY b pas with
 |inl x=>rw [e] at h;cases h
 |inr p=>rfl
theorem Ea {b:Bs}{pas:Int}(hb:IsB b)(h:gl b pas=false):fZ b pas=.tup [.agg Gj.cells,cD 2 (pq b pas) (j9 b pas)]:=by
 rw [Kq b pas hb]
 unfold Un pq j9
 unfold gl at h
 cases e:sY b pas with
 |inl x=>rfl
 |inr p=>rw [e] at h;cases h
theorem Eb {b:Bs}(pas:Int)(hb:IsB b)(f g:Nat→Option Nat):bm f g (j9 b pas)=j9 b pas:=by
 unfold j9 sY
 rcases wJ b pas hb with ⟨s,d,h,h2⟩ | ⟨n,hh,i,l,h,h2⟩<;>rw [h]
 ·exact h2 f g
 ·rfl
theorem Ec {b:Bs}(pas:Int)(hb:IsB b)(f g:Nat→Option Nat):bm f g (pp b pas)=pp b pas:=by
 unfold pp ui sY
 rcases wJ b pas hb with ⟨s,d,h,h2⟩ | ⟨n,hh,i,l,h,h2⟩<;>rw [h]
 ·rfl
 ·exact h2 f g
theorem zM {b:Bs}(pas:Int)(hb:IsB b)(f g:Nat→Option Nat):(fZ b pas).ren f g=fZ b pas:=by
 cases h:gl b pas
 ·rw [Ea hb h];simp only [TV.ren,aB,cD,Gj,OpS.cells,bm,Eb pas hb,Tok.ren]
 ·rw [D9 hb h]
  have:=Ec pas hb f g
  unfold pp at this
  simp only [TV.ren,aB,cD,OpS.cells,bm,this,Tok.ren]
def gM (b:Bs):Bool:=match f9 b with
 | .inr _=>true
 | .inl _=>false
def nQ (b:Bs):UpS:=match f9 b with
 | .inr u=>u
 | .inl _=>lu
def pt (b:Bs):Int:=match f9 b with
 | .inr _=>0
 | .inl p=>p.1
def ka (b:Bs):Bs:=match f9 b with
 | .inr _=> []
 | .inl p=>p.2
def zN (b:Bs):Bs:=(nQ b).w
def zP (b:Bs):Int:=(nQ b).o
def zQ (b:Bs):Bs:=(nQ b).x
def zS (b:Bs):Int:=(nQ b).h
def zT (b:Bs):Int:=(nQ b).m
def zU (b:Bs):Bool:=(nQ b).hm
def zV (b:Bs):Bs:=(nQ b).n
theorem Kr {b:Bs}(h:gM b=true):jY b=.tup [.agg (nQ b).cells,cD 0 0 []]:=by
 unfold jY vS nQ
 unfold gM at h
 cases e:f9 b with
 |inl x=>rw [e] at h;cases h
 |inr p=>rfl
theorem Ks {b:Bs}(h:gM b=false):jY b=.tup [.agg lu.cells,cD 3 (pt b) (ka b)]:=by
 unfold jY vS pt ka
 unfold gM at h
 cases e:f9 b with
 |inl x=>rfl
 |inr p=>rw [e] at h;cases h
theorem Nv {b:Bs}(hb:IsB b)(f g:Nat→Option Nat):bm f g (ka b)=ka b:=by
 unfold ka
 cases e:f9 b with
 |inl x=>exact Km hb e f g
 |inr p=>rfl
theorem Rf {b:Bs}(hb:IsB b)(f g:Nat→Option Nat):aB f g (nQ b).cells=(nQ b).cells:=by
 unfold nQ
 cases e:f9 b with
 |inl x=>rfl
 |inr p=>
  have:=Kl hb e f g
  simp only [UpS.tv,TV.ren] at this
  injection this
def uj (b:Bs):Int:=hZ (b[0]?.getD [])
def un (b:Bs):Int:=hZ (b[1]?.getD [])
def uo (b:Bs):Bs:=b.drop 2
theorem up (b:Bs):tZ b=bif fv b then .tup [cD (uj b) (un b) (uo b),.val (.bool true)] else .tup [cD 0 0 [],.val (.bool false)]:=rfl
theorem zW {b:Bs}(hb:IsB b)(f g:Nat→Option Nat):(tZ b).ren f g=tZ b:=by
 have:=(hb.drop 2).ren f g
 unfold tZ
 cases fv b
 ·rfl
 ·simp only [cond_true,TV.ren,aB,this,Tok.ren]
structure MsgS where
 k:Int
 op:OpS
 u:UpS
 c:Int
 s:Int
 d:Bs
def MsgS.cells (m:MsgS):List TV:=(.val (.int .i64 m.k))::(m.op.cells++(m.u.cells++ [.val (.int .i64 m.c),.val (.int .i64 m.s),.vec 1 m.d .none]))
def m0:MsgS:=⟨0,Gj,lu,0,0,[]⟩
def fh (b:Bs)(pas:Int):(Int × Int × Bs) ⊕ MsgS:=
 bif cK b then
  (if b.length<19 then .inl (1,2,[]) else if ¬bA b=b.length then .inl (1,2,mc b) else
  if cU b=1 then (bif gl (b.drop 19) pas then .inr {m0 with k:=cU b,op:=ui (b.drop 19) pas} else .inl (2,pq (b.drop 19) pas,j9 (b.drop 19) pas))
  else if cU b=2 then (bif gM (b.drop 19) then .inr {m0 with k:=cU b,u:=nQ (b.drop 19)} else .inl (3,pt (b.drop 19),ka (b.drop 19)))
  else if cU b=3 then (bif fv (b.drop 19) then .inr {m0 with k:=cU b,c:=uj (b.drop 19),s:=un (b.drop 19),d:=uo (b.drop 19)} else .inl (1,2,mc b))
  else .inr {m0 with k:=cU b})
 else .inl (1,ga b,fH b)
def Gk (p:(Int × Int × Bs) ⊕ MsgS):TV:=match p with
 | .inl (c,s,d)=>.tup [.agg m0.cells,cD c s d]
 | .inr m=>.tup [.agg m.cells,cD 0 0 []]
def pu (b:Bs)(pas:Int):TV:=Gk (fh b pas)
def Nw (m:MsgS):Prop:=∀f g,aB f g m.cells=m.cells
theorem Nx (f g:Nat→Option Nat)(l m:List TV):aB f g (l++m)=aB f g l++aB f g m:=by simp only [gE,List.map_append]
theorem rA {m:MsgS}(h1:∀f g,aB f g m.op.cells=m.op.cells)(h2:∀f g,aB f g m.u.cells=m.u.cells)(h3:∀f g,bm f g m.d=m.d):Nw m:=λf g=>by
 simp only [MsgS.cells,aB,Nx,h1,h2,TV.ren,h3,Tok.ren]
theorem Uo {b:Bs}{pas:Int}(hb:IsB b){m:MsgS}(h:fh b pas=.inr m):Nw m:=by
 have hd:=hb.drop 19
 unfold fh at h
 cases h1:cK b<;>rw [h1] at h<;>simp only [cond_true,cond_false] at h
 ·cases h
 split at h
 ·cases h
 split at h
 ·cases h
 split at h
 ·cases h2:gl (b.drop 19) pas<;>rw [h2] at h<;>simp only [cond_true,cond_false] at h
  ·cases h
  ·injection h with h;subst h
   refine rA (λf g=> ?_) (λ_ _=>rfl) (λ_ _=>rfl)
   have:=Ec pas hd f g
   unfold pp at this
   simp only [OpS.cells,aB,TV.ren,this,Tok.ren]
 split at h
 ·cases h2:gM (b.drop 19)<;>rw [h2] at h<;>simp only [cond_true,cond_false] at h
  ·cases h
  ·injection h with h;subst h
   exact rA (λ_ _=>rfl) (λf g=>Rf hd f g) (λ_ _=>rfl)
 split at h
 ·cases h2:fv (b.drop 19)<;>rw [h2] at h<;>simp only [cond_true,cond_false] at h
  ·cases h
  ·injection h with h;subst h
   exact rA (λ_ _=>rfl) (λ_ _=>rfl) (λf g=>(hd.drop 2).ren f g)
 ·injection h with h;subst h
  exact rA (λ_ _=>rfl) (λ_ _=>rfl) (λ_ _=>rfl)
theorem Up {b:Bs}{pas:Int}(hb:IsB b){c s:Int}{d:Bs}(h:fh b pas=.inl (c,s,d))(f g:Nat→Option Nat):bm f g d=d:=by
 have hd:=hb.drop 19
 have hz:IsB (mc b):=(hb.drop 16).take 2
 unfold fh at h
 cases h1:cK b<;>rw [h1] at h<;>simp only [cond_true,cond_false] at h
 ·injection h with h;injection h with _ h;injection h with _ h;rw [←h];exact (yk hb).ren f g
 split at h
 ·injection h with h;injection h with _ h;injection h with _ h;rw [←h];rfl
 split at h
 ·injection h with h;injection h with _ h;injection h with _ h;rw [←h];exact hz.ren f g
 split at h
 ·cases h2:gl (b.drop 19) pas<;>rw [h2] at h<;>simp only [cond_true,cond_false] at h
  ·injection h with h;injection h with _ h;injection h with _ h;rw [←h];exact Eb pas hd f g
  ·cases h
 split at h
 ·cases h2:gM (b.drop 19)<;>rw [h2] at h<;>simp only [cond_true,cond_false] at h
  ·injection h with h;injection h with _ h;injection h with _ h;rw [←h];exact Nv hd f g
  ·cases h
 split at h
 ·cases h2:fv (b.drop 19)<;>rw [h2] at h<;>simp only [cond_true,cond_false] at h
  ·injection h with h;injection h with _ h;injection h with _ h;rw [←h];exact hz.ren f g
  ·cases h
 ·cases h
theorem vk {b:Bs}(pas:Int)(hb:IsB b)(f g:Nat→Option Nat):(pu b pas).ren f g=pu b pas:=by
 unfold pu Gk
 split
 ·rename_i c s d h
  have:=Up hb h f g
  have h0:aB f g m0.cells=m0.cells:=rfl
  simp only [TV.ren,aB,cD,this,h0,Tok.ren]
 ·rename_i m h
  have:=Uo hb h f g
  simp only [TV.ren,aB,cD,this,bm,Tok.ren]
abbrev sZ:=26
abbrev jU:=27
abbrev Gl:=28
abbrev vl:=29
def Gm:be:=λ_ ys T K=>match ys with
 |[.vec 1 b _]=>IsB b∧bif cK b then K (.tup [.val (.int .i64 (bA b)),.val (.int .i64 (cU b)),cD 0 0 []]) T else K (.tup [.val (.int .i64 0),.val (.int .i64 0),cD 1 (ga b) (fH b)]) T
 |_=>aR 83 default ys
def Ih:be:=λ_ ys T K=>match ys with
 |[.vec 1 b _,.val (.int .i64 pas)]=>IsB b∧bif gl b pas then K (.tup [.agg [.val (.int .i64 (zJ b pas)),.val (.int .i64 (zK b pas)),.val (.int .u32 (zL b pas)),.vec 2 (pp b pas) .none],cD 0 0 []]) T else K (.tup [.agg [.val (.int .i64 0),.val (.int .i64 0),.val (.int .u32 0),.vec 2 [] .none],cD 2 (pq b pas) (j9 b pas)]) T
 |_=>aR 83 default ys
def Ii:be:=λ_ ys T K=>match ys with
 |[.vec 1 b _]=>IsB b∧bif gM b then K (.tup [.agg [.vec 2 (zN b) .none,.val (.int .i64 (zP b)),.vec 1 (zQ b) .none,.val (.int .u32 (zS b)),.val (.int .i64 (zT b)),.val (.bool (zU b)),.vec 2 (zV b) .none],cD 0 0 []]) T
  else K (.tup [.agg [.vec 2 [] .none,.val (.int .i64 0),.vec 1 [] .none,.val (.int .u32 0),.val (.int .i64 0),.val (.bool false),.vec 2 [] .none],cD 3 (pt b) (ka b)]) T
 |_=>aR 83 default ys
def Ij:be:=λ_ ys T K=>match ys with
 |[.vec 1 b _]=>IsB b∧bif fv b then K (.tup [cD (uj b) (un b) (uo b),.val (.bool true)]) T else K (.tup [cD 0 0 [],.val (.bool false)]) T
 |_=>aR 83 default ys
def Ed (r0 r1 r2 r3 r4 r5 r6 r7 r8 r9 r10 r11 r12 r13 r14 r15 r16 r17 r18:List TV)(w:Bs):Bs:=r0::r1::r2::r3::r4::r5::r6::r7::r8::r9::r10::r11::r12::r13::r14::r15::r16::r17::r18::w
def b9 (z0 z1 z2 z3 z4 z5 z6 z7 z8 z9 z10 z11 z12 z13 z14 z15 z16 z17 z18:Int)(w:Bs):Bs:=bT z0::bT z1::bT z2::bT z3::bT z4::bT z5::bT z6::bT z7::bT z8::bT z9::bT z10::bT z11::bT z12::bT z13::bT z14::bT z15::bT z16::bT z17::bT z18::w
theorem Wx (z0 z1 z2 z3 z4 z5 z6 z7 z8 z9 z10 z11 z12 z13 z14 z15 z16 z17 z18 x:Int)(r:List TV)(w:Bs)(Q:TV→VT→Prop):au prog aS (aI [(kU,ww)]) (bc [(999998,.dead,none),(71,.elt (.val (.int .i64 x)::r),none)]) 300 aG 0 sZ [.vec 1 (b9 z0 z1 z2 z3 z4 z5 z6 z7 z8 z9 z10 z11 z12 z13 z14 z15 z16 z17 z18 w) .none] ap Q=
 (bif !decide ((16:Int)≤wrap i64 ((↑(length (b9 z0 z1 z2 z3 z4 z5 z6 z7 z8 z9 z10 z11 z12 z13 z14 z15 z16 z17 z18 w)):Int)-(2:Int)))
 then (((@Eq (Option TV) (.some (uZ z0 z1 z2 z3 z4 z5 z6 z7 z8 z9 z10 z11 z12 z13 z14 z15)) (.some (uZ z0 z1 z2 z3 z4 z5 z6 z7 z8 z9 z10 z11 z12 z13 z14 z15)))∧
 True)∧
 (bif aq neq
  (aT
    ((λvs=>Value.agg (toArray vs))
      ((λx=>Value.int u8 z0::x)
        ((λx=>Value.int u8 z1::x)
          ((λx=>Value.int u8 z2::x)
            ((λx=>Value.int u8 z3::x)
              ((λx=>Value.int u8 z4::x)
                ((λx=>Value.int u8 z5::x)
                  ((λx=>Value.int u8 z6::x)
                    ((λx=>Value.int u8 z7::x)
                      ((λx=>Value.int u8 z8::x) ((λx=>Value.int u8 z9::x) ((λx=>Value.int u8 z10::x) ((λx=>Value.int u8 z11::x) ((λx=>Value.int u8 z12::x) ((λx=>Value.int u8 z13::x) ((λx=>Value.int u8 z14::x) ((λx=>Value.int u8 z15::x) [])))))))))))))))))
    ((λvs=>Value.agg (toArray vs))
      ((λx=>Value.int u8 (255:Int)::x)
        ((λx=>Value.int u8 (255:Int)::x)
          ((λx=>Value.int u8 (255:Int)::x)
            ((λx=>Value.int u8 (255:Int)::x)
              ((λx=>Value.int u8 (255:Int)::x)
                ((λx=>Value.int u8 (255:Int)::x)
                  ((λx=>Value.int u8 (255:Int)::x)
                    ((λx=>Value.int u8 (255:Int)::x)
                      ((λx=>Value.int u8 (255:Int)::x)
                        ((λx=>Value.int u8 (255:Int)::x) ((λx=>Value.int u8 (255:Int)::x) ((λx=>Value.int u8 (255:Int)::x) ((λx=>Value.int u8 (255:Int)::x) ((λx=>Value.int u8 (255:Int)::x) ((λx=>Value.int u8 (255:Int)::x) ((λx=>Value.int u8 (255:Int)::x) []))))))))))))))))))
 then Q fI (N1 z16 z17)
 else Q n7 (xM z16 z17)))
 else ((IsB ([(dm z16),(dm z17),(dm z18)]++w)∧
 (jB 2∧
 tK 2 ([(dm z16),(dm z17),(dm z18)]++w)))∧
 (((@Eq (Option TV) (.some (uZ z0 z1 z2 z3 z4 z5 z6 z7 z8 z9 z10 z11 z12 z13 z14 z15)) (.some (uZ z0 z1 z2 z3 z4 z5 z6 z7 z8 z9 z10 z11 z12 z13 z14 z15)))∧
 True)∧
 (bif aq neq
  (aT
    ((λvs=>Value.agg (toArray vs))
      ((λx=>Value.int u8 z0::x)
        ((λx=>Value.int u8 z1::x)
          ((λx=>Value.int u8 z2::x)
            ((λx=>Value.int u8 z3::x)
              ((λx=>Value.int u8 z4::x)
                ((λx=>Value.int u8 z5::x)
                  ((λx=>Value.int u8 z6::x)
                    ((λx=>Value.int u8 z7::x)
                      ((λx=>Value.int u8 z8::x) ((λx=>Value.int u8 z9::x) ((λx=>Value.int u8 z10::x) ((λx=>Value.int u8 z11::x) ((λx=>Value.int u8 z12::x) ((λx=>Value.int u8 z13::x) ((λx=>Value.int u8 z14::x) ((λx=>Value.int u8 z15::x) [])))))))))))))))))
    ((λvs=>Value.agg (toArray vs))
      ((λx=>Value.int u8 (255:Int)::x)
        ((λx=>Value.int u8 (255:Int)::x)
          ((λx=>Value.int u8 (255:Int)::x)
            ((λx=>Value.int u8 (255:Int)::x)
              ((λx=>Value.int u8 (255:Int)::x)
                ((λx=>Value.int u8 (255:Int)::x)
                  ((λx=>Value.int u8 (255:Int)::x)
                    ((λx=>Value.int u8 (255:Int)::x)
                      ((λx=>Value.int u8 (255:Int)::x)
                        ((λx=>Value.int u8 (255:Int)::x) ((λx=>Value.int u8 (255:Int)::x) ((λx=>Value.int u8 (255:Int)::x) ((λx=>Value.int u8 (255:Int)::x) ((λx=>Value.int u8 (255:Int)::x) ((λx=>Value.int u8 (255:Int)::x) ((λx=>Value.int u8 (255:Int)::x) []))))))))))))))))))
 then Q fI (N1 z16 z17)
 else (bif decide (wrap i64 (cQ (2:Int) (drop (Int.toNat (16:Int)) (b9 z0 z1 z2 z3 z4 z5 z6 z7 z8 z9 z10 z11 z12 z13 z14 z15 z16 z17 z18 w)))<(19:Int))
 then Q n7 (xM z16 z17)
 else (bif decide (wrap i64 (cQ (2:Int) (drop (Int.toNat (16:Int)) (b9 z0 z1 z2 z3 z4 z5 z6 z7 z8 z9 z10 z11 z12 z13 z14 z15 z16 z17 z18 w)))>(4096:Int))
 then Q n7 (xM z16 z17)
 else (bif decide (wrap i64 z18<(1:Int))
 then Q (uY [[(.val (.int .u8 (z18)))]]) (NZ [[(.val (.int .u8 (z18)))]] z16 z17 [[(.val (.int .u8 (z18)))]])
 else (bif decide (wrap i64 z18>(4:Int))
 then Q (uY [[(.val (.int .u8 (z18)))]]) (NZ [[(.val (.int .u8 (z18)))]] z16 z17 [[(.val (.int .u8 (z18)))]])
 else (ba prog (λkk=>(bif beq kk (0:Nat) then (.some iC) else .none)) (.indexAddr 112 (.global 0) (.tmp 70)) [(70,(ae (wrap i64 z18)))] (.elt ([(.val (.int .i64 (x)))]++r))∧
 (bif decide (wrap i64 (cQ (2:Int) (drop (Int.toNat (16:Int)) (b9 z0 z1 z2 z3 z4 z5 z6 z7 z8 z9 z10 z11 z12 z13 z14 z15 z16 z17 z18 w)))<x)
 then Q n7 (xM z16 z17)
 else (bif aq eql (k6 (wrap i64 z18) (4:Int))
 then (bif decide (wrap i64 (cQ (2:Int) (drop (Int.toNat (16:Int)) (b9 z0 z1 z2 z3 z4 z5 z6 z7 z8 z9 z10 z11 z12 z13 z14 z15 z16 z17 z18 w)))>(19:Int))
 then Q n7 (xM z16 z17)
 else Q (xK (wrap i64 (cQ (2:Int) (drop (Int.toNat (16:Int)) (b9 z0 z1 z2 z3 z4 z5 z6 z7 z8 z9 z10 z11 z12 z13 z14 z15 z16 z17 z18 w)))) (wrap i64 z18)) (NY z16 z17))
 else Q (xK (wrap i64 (cQ (2:Int) (drop (Int.toNat (16:Int)) (b9 z0 z1 z2 z3 z4 z5 z6 z7 z8 z9 z10 z11 z12 z13 z14 z15 z16 z17 z18 w)))) (wrap i64 z18)) (NY z16 z17)))))))))))):=by kernel_rfl
theorem Uq (b:Bs)(Q:TV→VT→Prop):au prog aS (aI [(kU,ww)]) (bc [(999998,.dead,none),(16,.dead,none)]) 300 aG 0 sZ [.vec 1 b .none] ap Q=
 (bif decide ((↑(length b):Int)<(19:Int))
 then Q NX u4
 else (ba prog (λkk=>(bif beq kk (0:Nat) then (.some iC) else .none)) (.slice 22 (.tmp 15) (.some (.const (.int .i64 16))) (.some (.const (.int .i64 18))) .none) [(15,(an b))] .dead∧
 False)):=by kernel_rfl
abbrev Ik (z16:Int)(z17:Int)(z18:Int):TV:=(xK (wrap i64 (wrap i64 ((256:Int)*wrap i64 z16)+wrap i64 z17)) (wrap i64 z18))
theorem Ur (z0 z1 z2 z3 z4 z5 z6 z7 z8 z9 z10 z11 z12 z13 z14 z15 z16 z17 z18 x:Int)(w:Bs)(Q:TV→VT→Prop):au prog ah aZ (bc [(999998,.dead,none),(65,.val (.int .i64 x),none)]) 300 aG 0 jU [.vec 1 (b9 z0 z1 z2 z3 z4 z5 z6 z7 z8 z9 z10 z11 z12 z13 z14 z15 z16 z17 z18 w) .none] ap Q=
 (bif aq neq (aT (Value.int u8 z0) (Value.int u8 (255:Int)))
 then Q fI gS
 else (bif aq neq (aT (Value.int u8 z1) (Value.int u8 (255:Int)))
 then Q fI gS
 else (bif aq neq (aT (Value.int u8 z2) (Value.int u8 (255:Int)))
 then Q fI gS
 else (bif aq neq (aT (Value.int u8 z3) (Value.int u8 (255:Int)))
 then Q fI gS
 else (bif aq neq (aT (Value.int u8 z4) (Value.int u8 (255:Int)))
 then Q fI gS
 else (bif aq neq (aT (Value.int u8 z5) (Value.int u8 (255:Int)))
 then Q fI gS
 else (bif aq neq (aT (Value.int u8 z6) (Value.int u8 (255:Int)))
 then Q fI gS
 else (bif aq neq (aT (Value.int u8 z7) (Value.int u8 (255:Int)))
 then Q fI gS
 else (bif aq neq (aT (Value.int u8 z8) (Value.int u8 (255:Int)))
 then Q fI gS
 else (bif aq neq (aT (Value.int u8 z9) (Value.int u8 (255:Int)))
 then Q fI gS
 else (bif aq neq (aT (Value.int u8 z10) (Value.int u8 (255:Int)))
 then Q fI gS
 else (bif aq neq (aT (Value.int u8 z11) (Value.int u8 (255:Int)))
 then Q fI gS
 else (bif aq neq (aT (Value.int u8 z12) (Value.int u8 (255:Int)))
 then Q fI gS
 else (bif aq neq (aT (Value.int u8 z13) (Value.int u8 (255:Int)))
 then Q fI gS
 else (bif aq neq (aT (Value.int u8 z14) (Value.int u8 (255:Int)))
 then Q fI gS
 else (bif aq neq (aT (Value.int u8 z15) (Value.int u8 (255:Int)))
 then Q fI gS
 else (bif decide (wrap i64 (wrap i64 ((256:Int)*wrap i64 z16)+wrap i64 z17)<(19:Int))
 then Q n7 (BA z16 z17)
 else (bif decide (wrap i64 (wrap i64 ((256:Int)*wrap i64 z16)+wrap i64 z17)>(4096:Int))
 then Q n7 (BA z16 z17)
 else (bif decide (wrap i64 z18<(1:Int))
 then Q (uY [[(.val (.int .u8 (z18)))]]) ⟨[(zn [[(.val (.int .u8 (z18)))]]),(nB z16 z17)],[]⟩
 else (bif decide (wrap i64 z18>(4:Int))
 then Q (uY [[(.val (.int .u8 (z18)))]]) ⟨[(zn [[(.val (.int .u8 (z18)))]]),(nB z16 z17)],[]⟩
 else (ba prog (λ_=>.none) (.index 112 (.tmp 63) (.tmp 64)) [(63,(.agg [aE,(.val (.int .i64 29)),(.val (.int .i64 23)),(.val (.int .i64 21)),(.val (.int .i64 19))])),(64,(ae (wrap i64 z18)))] (ae x)∧
 (bif decide (wrap i64 (wrap i64 ((256:Int)*wrap i64 z16)+wrap i64 z17)<x)
 then Q n7 (BA z16 z17)
 else (bif aq eql (k6 (wrap i64 z18) (4:Int))
 then (bif aq neq (k6 (wrap i64 (wrap i64 ((256:Int)*wrap i64 z16)+wrap i64 z17)) (19:Int))
 then Q n7 (BA z16 z17)
 else Q (Ik z16 z17 z18) (SI z16 z17))
 else Q (Ik z16 z17 z18) (SI z16 z17)))))))))))))))))))))))):=by kernel_rfl
theorem Rg (b:Bs)(Q:TV→VT→Prop):au prog ah aZ (bc [(999998,.dead,none),(15,.dead,none)]) 300 aG 0 jU [.vec 1 b .none] ap Q=
 (bif decide ((↑(length b):Int)<(19:Int))
 then Q NX u4
 else (ba prog (λ_=>.none) (.slice 22 (.tmp 14) .none (.some (.const (.int .i64 16))) .none) [(14,(an b))] .dead∧
 False)):=by kernel_rfl
noncomputable abbrev OL (BB:Bs):VO:=(bI (flatten (dN (TypeInfo.size (types (toTables prog))[(5:Nat)]) (0:Nat) (List.map TV.val (ix (Value.cells (Value.int u8 (0:Int))) ((0:Nat)*TypeInfo.size (types (toTables prog))[(5:Nat)]))))++
 flatten (drop (Int.toNat (16:Int)) (List.take (Int.toNat (18:Int)) BB))))
abbrev OM (BB:Bs):VO:=(SB (cU BB) (zN (drop (Int.toNat (19:Int)) BB)) (zP (drop (Int.toNat (19:Int)) BB)) (zQ (drop (Int.toNat (19:Int)) BB)) (zS (drop (Int.toNat (19:Int)) BB)) (zT (drop (Int.toNat (19:Int)) BB)) (zU (drop (Int.toNat (19:Int)) BB)) (zV (drop (Int.toNat (19:Int)) BB)))
abbrev ON (BB:Bs)(pas:Int):VO:=(SF (cU BB) (zJ (drop (Int.toNat (19:Int)) BB) pas) (zK (drop (Int.toNat (19:Int)) BB) pas) (zL (drop (Int.toNat (19:Int)) BB) pas) (pp (drop (Int.toNat (19:Int)) BB) pas))
abbrev OO (BB:Bs):VO:=(Sx (cU BB) (uj (drop (Int.toNat (19:Int)) BB)) (un (drop (Int.toNat (19:Int)) BB)) (uo (drop (Int.toNat (19:Int)) BB)))
abbrev OP (BB:Bs):VO:=(pV (pt (drop (Int.toNat (19:Int)) BB)) (ka (drop (Int.toNat (19:Int)) BB)))
abbrev OQ (BB:Bs)(pas:Int):VO:=(L7 (pq (drop (Int.toNat (19:Int)) BB) pas) (j9 (drop (Int.toNat (19:Int)) BB) pas))
theorem Us (r0 r1 r2 r3 r4 r5 r6 r7 r8 r9 r10 r11 r12 r13 r14 r15 r16 r17 r18:List TV)(w:Bs)(pas:Int)(Q:TV→VT→Prop):au prog ah (aI [(jU,Gm),(ir,Ih),(OK,Ii),(H0,Ij)]) (bc [(999999,.dead,none)]) 300 aG 0 vl [.vec 1 (Ed r0 r1 r2 r3 r4 r5 r6 r7 r8 r9 r10 r11 r12 r13 r14 r15 r16 r17 r18 w) .none,.val (.int .i64 pas)] ap Q=
 (λBB:Bs=>(IsB ([(r0),(r1),(r2),(r3),(r4),(r5),(r6),(r7),(r8),(r9),(r10),(r11),(r12),(r13),(r14),(r15),(r16),(r17),(r18)]++w)∧
 (bif cK BB
 then (bif aq neq (k6 (bA BB) (↑(length BB):Int))
 then Q (.tup [zo,(.agg [eH,dK,(.row 1 3 0 2)])]) ⟨[oV,(.cells [eH,dK,(.row 1 3 0 2)]),b8,(OL BB)],[]⟩
 else (bif aq eql (k6 (cU BB) (1:Int))
 then (IsB (w)∧
 (bif gl (drop (Int.toNat (19:Int)) BB) pas
 then Q (SG (cU BB) (zJ (drop (Int.toNat (19:Int)) BB) pas) (zK (drop (Int.toNat (19:Int)) BB) pas) (zL (drop (Int.toNat (19:Int)) BB) pas) (pp (drop (Int.toNat (19:Int)) BB) pas)) ⟨[(ON BB pas),bh,b8,(ON BB pas)],[]⟩
 else Q (SE (pq (drop (Int.toNat (19:Int)) BB) pas) (j9 (drop (Int.toNat (19:Int)) BB) pas)) ⟨[oV,(OQ BB pas),(OQ BB pas),(SD (cU BB))],[]⟩))
 else (bif aq eql (k6 (cU BB) (2:Int))
 then (IsB (w)∧
 (bif gM (drop (Int.toNat (19:Int)) BB)
 then Q (SC (cU BB) (zN (drop (Int.toNat (19:Int)) BB)) (zP (drop (Int.toNat (19:Int)) BB)) (zQ (drop (Int.toNat (19:Int)) BB)) (zS (drop (Int.toNat (19:Int)) BB)) (zT (drop (Int.toNat (19:Int)) BB)) (zU (drop (Int.toNat (19:Int)) BB)) (zV (drop (Int.toNat (19:Int)) BB))) ⟨[(OM BB),bh,b8,(OM BB)],[]⟩
 else Q (SA (pt (drop (Int.toNat (19:Int)) BB)) (ka (drop (Int.toNat (19:Int)) BB))) ⟨[oV,(OP BB),(OP BB),(Sz (cU BB))],[]⟩))
 else (bif aq eql (k6 (cU BB) (3:Int))
 then (IsB (w)∧
 (bif fv (drop (Int.toNat (19:Int)) BB)
 then Q (Sy (cU BB) (uj (drop (Int.toNat (19:Int)) BB)) (un (drop (Int.toNat (19:Int)) BB)) (uo (drop (Int.toNat (19:Int)) BB))) ⟨[(OO BB),bh,b8,(OO BB),(dX (uj (drop (Int.toNat (19:Int)) BB)) (un (drop (Int.toNat (19:Int)) BB)) (uo (drop (Int.toNat (19:Int)) BB)))],[]⟩
 else Q Hz ⟨[oV,mH,mH,(Sw (cU BB)),b8,(OL BB)],[]⟩))
 else Q (L6 (cU BB)) ⟨[(Hv (cU BB)),bh,b8,(Hv (cU BB))],[]⟩))))
 else Q (Hy (ga BB) (fH BB)) (Sv (ga BB) (fH BB) (ga BB) (fH BB))))) (Ed r0 r1 r2 r3 r4 r5 r6 r7 r8 r9 r10 r11 r12 r13 r14 r15 r16 r17 r18 w):=by kernel_rfl
theorem Rh (b:Bs)(pas:Int)(Q:TV→VT→Prop):au prog ah (aI [(jU,Gm)]) (bc [(999999,.dead,none),(28,.dead,none)]) 300 aG 0 vl [.vec 1 b .none,.val (.int .i64 pas)] ap Q=
 (IsB (b)∧
 (bif cK b
 then (bif decide ((↑(length b):Int)<(19:Int))
 then Q (.tup [zo,(.agg [eH,dK,aY])]) ⟨[oV,Sq,b8],[]⟩
 else (ba prog (λ_=>.none) (.move (.tmp 6)) [(6,(ae (bA b)))] .dead∧
 False))
 else Q (Hy (ga b) (fH b)) (Sv (ga b) (fH b) (ga b) (fH b)))):=by kernel_rfl
theorem VCx.fz0 {P:Program}{G:aV}{f:FuncId}{xs:List TV}{y:TV}(hy:∀f g,y.ren f g=y)(h:VCx P G 0 f xs ⟨[],[]⟩ λx T'=>∃T2,FzLe T' x y T2∧T'.objs.length≤T2.objs.length):VCx P G 0 f xs ⟨[],[]⟩ λx T'=>x=y∧T'=⟨[],[]⟩:=by
 refine VCx.keepQ 0 0 (le_refl _) (le_refl _) ((VCx.toFz (y:=y) (Q:=λ_=>True) (h.mono λx T' ⟨T2,h1,h2⟩=>⟨T2,h1,h2,trivial⟩)).mono ?_)
 rintro x T' ⟨rfl,_⟩
 exact ⟨hy _ _,rfl⟩
def FzX (T:VT)(x y:TV):Prop:=∃T2,FzLe T x y T2∧T.objs.length≤T2.objs.length
theorem FzX.le {T:VT}{x y:TV}(h:TVle x y):FzX T x y:=⟨T,.le h,le_refl _⟩
theorem FzX.row {T:VT}{size id n:Nat}{es:Bs}(h:cd T size (.row size id 0 n)=some es):FzX T (.row size id 0 n) (.vec size es .none):=⟨_,.row h,by simp [VT.kill]⟩
theorem dY {n:Nat}{l:List Int}(h:n+1≤l.length):∃z l',l=z::l'∧n≤l'.length:=by
 cases l with
 |nil=>simp at h
 |cons z l=>exact ⟨z,l,rfl,by simpa using h⟩
def inZ (z:Int):Prop:=0≤z∧z<256
theorem inZ.wrap {z:Int}(h:inZ z):IntKind.wrap i64 z=z:=bE (by have:=h.1;omega) (by have:=h.2;omega)
theorem Ee {b:Bs}(hb:IsB b)(h:19≤b.length):∃(z0 z1 z2 z3 z4 z5 z6 z7 z8 z9 z10 z11 z12 z13 z14 z15 z16 z17 z18:Int) (w:Bs),b=b9 z0 z1 z2 z3 z4 z5 z6 z7 z8 z9 z10 z11 z12 z13 z14 z15 z16 z17 z18 w∧inZ z0∧inZ z1∧inZ z2∧inZ z3∧inZ z4∧inZ z5∧inZ z6∧inZ z7∧inZ z8∧inZ z9∧inZ z10∧inZ z11∧inZ z12∧inZ z13∧inZ z14∧inZ z15∧inZ z16∧inZ z17∧inZ z18:=by
 obtain ⟨⟨l,rfl,hl⟩,_⟩:=hb
 have h:19≤l.length:=by simpa [bV] using h
 obtain ⟨z0,l0,e0,h0⟩:=dY h
 subst e0
 obtain ⟨z1,l1,e1,h1⟩:=dY h0
 subst e1
 obtain ⟨z2,l2,e2,h2⟩:=dY h1
 subst e2
 obtain ⟨z3,l3,e3,h3⟩:=dY h2
 subst e3
 obtain ⟨z4,l4,e4,h4⟩:=dY h3
 subst e4
 obtain ⟨z5,l5,e5,h5⟩:=dY h4
 subst e5
 obtain ⟨z6,l6,e6,h6⟩:=dY h5
 subst e6
 obtain ⟨z7,l7,e7,h7⟩:=dY h6
 subst e7
 obtain ⟨z8,l8,e8,h8⟩:=dY h7
 subst e8
 obtain ⟨z9,l9,e9,h9⟩:=dY h8
 subst e9
 obtain ⟨z10,l10,e10,h10⟩:=dY h9
 subst e10
 obtain ⟨z11,l11,e11,h11⟩:=dY h10
 subst e11
 obtain ⟨z12,l12,e12,h12⟩:=dY h11
 subst e12
 obtain ⟨z13,l13,e13,h13⟩:=dY h12
 subst e13
 obtain ⟨z14,l14,e14,h14⟩:=dY h13
 subst e14
 obtain ⟨z15,l15,e15,h15⟩:=dY h14
 subst e15
 obtain ⟨z16,l16,e16,h16⟩:=dY h15
 subst e16
 obtain ⟨z17,l17,e17,h17⟩:=dY h16
 subst e17
 obtain ⟨z18,l18,e18,h18⟩:=dY h17
 subst e18
 refine ⟨z0,z1,z2,z3,z4,z5,z6,z7,z8,z9,z10,z11,z12,z13,z14,z15,z16,z17,z18,bV l18,rfl,hl z0 (by simp),hl z1 (by simp),hl z2 (by simp),hl z3 (by simp),hl z4 (by simp),hl z5 (by simp),hl z6 (by simp),hl z7 (by simp),hl z8 (by simp),hl z9 (by simp),hl z10 (by simp),hl z11 (by simp),hl z12 (by simp),hl z13 (by simp),hl z14 (by simp),hl z15 (by simp),hl z16 (by simp),hl z17 (by simp),hl z18 (by simp)⟩
theorem uq:∀l:List Int,fm (l.map (Value.int .u8)) (l.map λ_=>Value.int .u8 255)=(bV l).all λr=>decide (hZ r=255)
 |[]=>rfl
 |z::l=>by
  have h:=uq l
  have e:dh (Value.int .u8 z) (Value.int .u8 255)=decide (z=255):=by simp [dh,Bool.beq_eq_decide_eq]
  simp only [map_cons,fm,bV,List.all_cons,e] at h ⊢
  rw [show hZ (bT z)=z from rfl]
  rw [h]
  cases decide (z=255)<;>rfl
theorem zX {b:Bs}(hb:IsB b):0≤cQ 2 b∧cQ 2 b<65536:=by
 obtain ⟨⟨l,hl,hz⟩,_⟩:=hb.take 2
 have hlen:l.length≤2:=by
  have:=congrArg length hl
  simp only [bV,length_map,length_take] at this
  omega
 have h:=tJ hz
 unfold cQ
 rw [show (2:Int).toNat=2 from rfl,hl]
 refine ⟨h.1,Int.lt_of_lt_of_le h.2 ?_⟩
 have:l.length=0∨l.length=1∨l.length=2:=by omega
 rcases this with h | h | h<;>rw [h]<;>decide
def Ef (k:Int):List TV:=([.val (.int .i64 0),.val (.int .i64 29),.val (.int .i64 23),.val (.int .i64 21),.val (.int .i64 19)]:List TV).drop (k.toNat+1)
theorem yl {k:Int}(h1:1≤k)(h4:k≤4):ba prog aS (.indexAddr 112 (.global 0) (.tmp 70)) [(70,(.val (.int .i64 k)))] (.elt ([.val (.int .i64 (sB k))]++Ef k)):=by
 have h:k=1∨k=2∨k=3∨k=4:=by omega
 rcases h with rfl | rfl | rfl | rfl<;>exact ⟨by kernel_rfl⟩
theorem Kt {k:Int}(h1:1≤k)(h4:k≤4):ba prog ah (.index 112 (.tmp 63) (.tmp 64)) [(63,(.agg [(.val (.int .i64 0)),(.val (.int .i64 29)),(.val (.int .i64 23)),(.val (.int .i64 21)),(.val (.int .i64 19))])),(64,(.val (.int .i64 k)))] (.val (.int .i64 (sB k))):=by
 have h:k=1∨k=2∨k=3∨k=4:=by omega
 rcases h with rfl | rfl | rfl | rfl<;>exact ⟨by kernel_rfl⟩
section
variable {b:Bs}
theorem cR {s:Int}{d:Bs}{dz:TV}{T':VT}(h:md b=.inl (s,d))(hd:FzX T' dz (.vec 1 d .none)):FzX T' (.tup [.val (.int .i64 0),.val (.int .i64 0),.agg [.val (.int .i64 1),.val (.int .i64 s),dz]]) (mp b):=by
 obtain ⟨T2,h1,h2⟩:=hd
 unfold mp D8
 rw [h]
 exact ⟨T2,.tup (.le (.le (.cons (.agg (.le (.le (.cons h1 .nil)))) .nil))),h2⟩
theorem oD {n k:Int}{T':VT}(h:md b=.inr (n,k)):FzX T' (.tup [.val (.int .i64 n),.val (.int .i64 k),.agg [.val (.int .i64 0),.val (.int .i64 0),.val (.slice none 0 0)]]) (mp b):=by
 unfold mp D8
 rw [h]
 exact .le (.tup ⟨.refl _,.refl _,.agg ⟨.refl _,.refl _,.nil 1,trivial⟩,trivial⟩)
theorem mR (h:¬b.length<19):md b=bif cq b then
  (if fG b<19∨fG b>4096 then .inl (2,mc b) else if nP b<1∨nP b>4 then .inl (3,yj b)
  else if fG b<sB (nP b)∨(nP b=4∧¬fG b=19) then .inl (2,mc b) else .inr (fG b,nP b))
 else .inl (1,[]):=by unfold md;rw [if_neg h]
end
theorem qH {z16 z17:Int}{T':VT}{id:Nat}(h:T'.objs[id]?=some (.row [.val (.int .u8 z16),.val (.int .u8 z17)])):FzX T' (.row 1 id 0 2) (.vec 1 [bT z16,bT z17] .none):=
 .row (dI (es:= [bT z16,bT z17]) h (by intro e he;simp only [mem_cons,not_mem_nil,or_false] at he;rcases he with rfl | rfl<;>rfl))
theorem OS:bk prog aS (aI [(kU,ww)]):=aQ λp hp=>by
 obtain rfl:=mem_singleton.1 hp;exact λro ys T K h=>VCx.anyG (zu ro ys T K h)
set_option maxHeartbeats 1000000 in
theorem Ut {b:Bs}(hb:IsB b):VCx prog aS 0 sZ [.vec 1 b .none] ⟨[],[]⟩ λx T'=>x=mp b∧T'=⟨[],[]⟩:=by
 refine VCx.fz0 (lv hb) ?_
 by_cases hlen:b.length<19
 ·refine aj ag ac OS ai (Uq b _) ?_
  exact aU (decide_eq_true (show ((b.length:Nat):Int)<19 by omega)) (oD (by unfold md;rw [if_pos hlen]))
 obtain ⟨z0,z1,z2,z3,z4,z5,z6,z7,z8,z9,z10,z11,z12,z13,z14,z15,z16,z17,z18,w,rfl,i0,i1,i2,i3,i4,i5,i6,i7,i8,i9,i10,i11,i12,i13,i14,i15,i16,i17,i18⟩:=Ee hb (by omega)
 have hl:¬(b9 z0 z1 z2 z3 z4 z5 z6 z7 z8 z9 z10 z11 z12 z13 z14 z15 z16 z17 z18 w).length<19:=by simp [b9]
 have hP:=mR hl
 have hN:=zX (hb.drop 16)
 have hsz:mc (b9 z0 z1 z2 z3 z4 z5 z6 z7 z8 z9 z10 z11 z12 z13 z14 z15 z16 z17 z18 w)= [bT z16,bT z17]:=rfl
 have hkd:yj (b9 z0 z1 z2 z3 z4 z5 z6 z7 z8 z9 z10 z11 z12 z13 z14 z15 z16 z17 z18 w)= [bT z18]:=rfl
 have hk:nP (b9 z0 z1 z2 z3 z4 z5 z6 z7 z8 z9 z10 z11 z12 z13 z14 z15 z16 z17 z18 w)=z18:=rfl
 change 0≤fG (b9 z0 z1 z2 z3 z4 z5 z6 z7 z8 z9 z10 z11 z12 z13 z14 z15 z16 z17 z18 w)∧fG (b9 z0 z1 z2 z3 z4 z5 z6 z7 z8 z9 z10 z11 z12 z13 z14 z15 z16 z17 z18 w)<65536 at hN
 rw [hsz,hkd,hk] at hP
 have hwk:wrap i64 z18=z18:=i18.wrap
 have hwn:wrap i64 (cQ (2:Int) (drop (Int.toNat (16:Int)) (b9 z0 z1 z2 z3 z4 z5 z6 z7 z8 z9 z10 z11 z12 z13 z14 z15 z16 z17 z18 w)))=fG (b9 z0 z1 z2 z3 z4 z5 z6 z7 z8 z9 z10 z11 z12 z13 z14 z15 z16 z17 z18 w):=bE (z:=fG (b9 z0 z1 z2 z3 z4 z5 z6 z7 z8 z9 z10 z11 z12 z13 z14 z15 z16 z17 z18 w)) (by omega) (by omega)
 have hsm:=hb.small
 have hll:(b9 z0 z1 z2 z3 z4 z5 z6 z7 z8 z9 z10 z11 z12 z13 z14 z15 z16 z17 z18 w).length=w.length+19:=rfl
 refine aj ag ac OS ai (Wx z0 z1 z2 z3 z4 z5 z6 z7 z8 z9 z10 z11 z12 z13 z14 z15 z16 z17 z18 (sB z18) (Ef z18) w _) ?_
 rw [hwn,hwk]
 generalize fG (b9 z0 z1 z2 z3 z4 z5 z6 z7 z8 z9 z10 z11 z12 z13 z14 z15 z16 z17 z18 w)=n at hP hN
 refine aO (by rw [bE (by omega) (by omega),decide_eq_true (by omega)];rfl) ⟨⟨hb.drop 16,⟨by decide,by decide⟩,by show (2:Int)≤_;simp only [length_append,length_cons,length_nil];omega⟩,⟨rfl,trivial⟩,?_⟩
 have hall:=uq [z0,z1,z2,z3,z4,z5,z6,z7,z8,z9,z10,z11,z12,z13,z14,z15]
 refine ak (λc=> ?_) (λc=> ?_)
 ·have c2:(!cq (b9 z0 z1 z2 z3 z4 z5 z6 z7 z8 z9 z10 z11 z12 z13 z14 z15 z16 z17 z18 w))=true:=Eq.trans (congrArg Bool.not hall).symm c
  have c3:cq (b9 z0 z1 z2 z3 z4 z5 z6 z7 z8 z9 z10 z11 z12 z13 z14 z15 z16 z17 z18 w)=false:=by simpa using c2
  exact cR (by rw [hP,c3];rfl) (.le (.nil 1))
 have c2:(!cq (b9 z0 z1 z2 z3 z4 z5 z6 z7 z8 z9 z10 z11 z12 z13 z14 z15 z16 z17 z18 w))=false:=Eq.trans (congrArg Bool.not hall).symm c
 have c3:cq (b9 z0 z1 z2 z3 z4 z5 z6 z7 z8 z9 z10 z11 z12 z13 z14 z15 z16 z17 z18 w)=true:=by simpa using c2
 rw [c3,cond_true] at hP
 refine ak (λd1=> ?_) (λd1=> ?_)
 ·exact cR (by rw [hP,if_pos (.inl (of_decide_eq_true d1))]) (qH rfl)
 replace d1:=of_decide_eq_false d1
 refine ak (λd2=> ?_) (λd2=> ?_)
 ·exact cR (by rw [hP,if_pos (.inr (of_decide_eq_true d2))]) (qH rfl)
 replace d2:=of_decide_eq_false d2
 rw [if_neg (show ¬(n<19∨n>4096) by omega)] at hP
 refine ak (λd3=> ?_) (λd3=> ?_)
 ·exact cR (by rw [hP,if_pos (.inl (of_decide_eq_true d3))];rfl) (.le (.vec 1 _ _))
 replace d3:=of_decide_eq_false d3
 refine ak (λd4=> ?_) (λd4=> ?_)
 ·exact cR (by rw [hP,if_pos (.inr (of_decide_eq_true d4))];rfl) (.le (.vec 1 _ _))
 replace d4:=of_decide_eq_false d4
 rw [if_neg (show ¬(z18<1∨z18>4) by omega)] at hP
 refine ⟨yl (by omega) (by omega),?_⟩
 refine ak (λd5=> ?_) (λd5=> ?_)
 ·exact cR (by rw [hP,if_pos (.inl (of_decide_eq_true d5))]) (qH rfl)
 replace d5:=of_decide_eq_false d5
 refine ak (λd6=> ?_) (λd6=> ?_)
 ·replace d6:=bM d6
  refine ak (λd7=> ?_) (λd7=> ?_)
  ·replace d7:=of_decide_eq_true d7
   exact cR (by rw [hP,if_pos (.inr ⟨d6,by omega⟩)]) (qH rfl)
  ·replace d7:=of_decide_eq_false d7
   exact oD (by rw [hP,if_neg (by omega)])
 ·replace d6:=bB d6
  exact oD (by rw [hP,if_neg (by omega)])
set_option maxHeartbeats 1000000 in
theorem vm {b:Bs}(hb:IsB b):VCx prog ah 0 jU [.vec 1 b .none] ⟨[],[]⟩ λx T'=>x=mp b∧T'=⟨[],[]⟩:=by
 refine VCx.fz0 (lv hb) ?_
 by_cases hlen:b.length<19
 ·refine aj ag ac am ai (Rg b _) ?_
  exact aU (decide_eq_true (show ((b.length:Nat):Int)<19 by omega)) (oD (by unfold md;rw [if_pos hlen]))
 obtain ⟨z0,z1,z2,z3,z4,z5,z6,z7,z8,z9,z10,z11,z12,z13,z14,z15,z16,z17,z18,w,rfl,i0,i1,i2,i3,i4,i5,i6,i7,i8,i9,i10,i11,i12,i13,i14,i15,i16,i17,i18⟩:=Ee hb (by omega)
 have hl:¬(b9 z0 z1 z2 z3 z4 z5 z6 z7 z8 z9 z10 z11 z12 z13 z14 z15 z16 z17 z18 w).length<19:=by simp [b9]
 have hP:=mR hl
 have hN:=zX (hb.drop 16)
 have hsz:mc (b9 z0 z1 z2 z3 z4 z5 z6 z7 z8 z9 z10 z11 z12 z13 z14 z15 z16 z17 z18 w)= [bT z16,bT z17]:=rfl
 have hkd:yj (b9 z0 z1 z2 z3 z4 z5 z6 z7 z8 z9 z10 z11 z12 z13 z14 z15 z16 z17 z18 w)= [bT z18]:=rfl
 have hk:nP (b9 z0 z1 z2 z3 z4 z5 z6 z7 z8 z9 z10 z11 z12 z13 z14 z15 z16 z17 z18 w)=z18:=rfl
 change 0≤fG (b9 z0 z1 z2 z3 z4 z5 z6 z7 z8 z9 z10 z11 z12 z13 z14 z15 z16 z17 z18 w)∧fG (b9 z0 z1 z2 z3 z4 z5 z6 z7 z8 z9 z10 z11 z12 z13 z14 z15 z16 z17 z18 w)<65536 at hN
 rw [hsz,hkd,hk] at hP
 have hwk:wrap i64 z18=z18:=i18.wrap
 have hwn:wrap i64 (wrap i64 ((256:Int)*wrap i64 z16)+wrap i64 z17)=fG (b9 z0 z1 z2 z3 z4 z5 z6 z7 z8 z9 z10 z11 z12 z13 z14 z15 z16 z17 z18 w):=by
  have h1:=i16.1;have h2:=i16.2;have h3:=i17.1;have h4:=i17.2
  rw [i16.wrap,i17.wrap,bE (z:=256*z16) (by omega) (by omega),bE (z:=256*z16+z17) (by omega) (by omega)]
  show _=(0*256+z16)*256+z17
  omega
 refine aj ag ac am ai (Ur z0 z1 z2 z3 z4 z5 z6 z7 z8 z9 z10 z11 z12 z13 z14 z15 z16 z17 z18 (sB z18) w _) ?_
 try delta Ik
 rw [hwn,hwk]
 generalize fG (b9 z0 z1 z2 z3 z4 z5 z6 z7 z8 z9 z10 z11 z12 z13 z14 z15 z16 z17 z18 w)=n at hP hN
 have hall:cq (b9 z0 z1 z2 z3 z4 z5 z6 z7 z8 z9 z10 z11 z12 z13 z14 z15 z16 z17 z18 w)=(decide (z0=255)&&(decide (z1=255)&&(decide (z2=255)&&(decide (z3=255)&&(decide (z4=255)&&(decide (z5=255)&&(decide (z6=255)&&(decide (z7=255)&&(decide (z8=255)&&(decide (z9=255)&&(decide (z10=255)&&(decide (z11=255)&&(decide (z12=255)&&(decide (z13=255)&&(decide (z14=255)&&(decide (z15=255)&&true)))))))))))))))):=rfl
 refine ak (λc=> ?_) (λc0=> ?_)
 ·have c3:cq (b9 z0 z1 z2 z3 z4 z5 z6 z7 z8 z9 z10 z11 z12 z13 z14 z15 z16 z17 z18 w)=false:=by rw [hall,decide_eq_false (bX c)];simp
  exact cR (by rw [hP,c3];rfl) (.le (.nil 1))
 replace c0:z0=255:=bZ c0
 refine ak (λc=> ?_) (λc1=> ?_)
 ·have c3:cq (b9 z0 z1 z2 z3 z4 z5 z6 z7 z8 z9 z10 z11 z12 z13 z14 z15 z16 z17 z18 w)=false:=by rw [hall,decide_eq_false (bX c)];simp
  exact cR (by rw [hP,c3];rfl) (.le (.nil 1))
 replace c1:z1=255:=bZ c1
 refine ak (λc=> ?_) (λc2=> ?_)
 ·have c3:cq (b9 z0 z1 z2 z3 z4 z5 z6 z7 z8 z9 z10 z11 z12 z13 z14 z15 z16 z17 z18 w)=false:=by rw [hall,decide_eq_false (bX c)];simp
  exact cR (by rw [hP,c3];rfl) (.le (.nil 1))
 replace c2:z2=255:=bZ c2
 refine ak (λc=> ?_) (λc3=> ?_)
 ·have c3:cq (b9 z0 z1 z2 z3 z4 z5 z6 z7 z8 z9 z10 z11 z12 z13 z14 z15 z16 z17 z18 w)=false:=by rw [hall,decide_eq_false (bX c)];simp
  exact cR (by rw [hP,c3];rfl) (.le (.nil 1))
 replace c3:z3=255:=bZ c3
 refine ak (λc=> ?_) (λc4=> ?_)
 ·have c3:cq (b9 z0 z1 z2 z3 z4 z5 z6 z7 z8 z9 z10 z11 z12 z13 z14 z15 z16 z17 z18 w)=false:=by rw [hall,decide_eq_false (bX c)];simp
  exact cR (by rw [hP,c3];rfl) (.le (.nil 1))
 replace c4:z4=255:=bZ c4
 refine ak (λc=> ?_) (λc5=> ?_)
 ·have c3:cq (b9 z0 z1 z2 z3 z4 z5 z6 z7 z8 z9 z10 z11 z12 z13 z14 z15 z16 z17 z18 w)=false:=by rw [hall,decide_eq_false (bX c)];simp
  exact cR (by rw [hP,c3];rfl) (.le (.nil 1))
 replace c5:z5=255:=bZ c5
 refine ak (λc=> ?_) (λc6=> ?_)
 ·have c3:cq (b9 z0 z1 z2 z3 z4 z5 z6 z7 z8 z9 z10 z11 z12 z13 z14 z15 z16 z17 z18 w)=false:=by rw [hall,decide_eq_false (bX c)];simp
  exact cR (by rw [hP,c3];rfl) (.le (.nil 1))
 replace c6:z6=255:=bZ c6
 refine ak (λc=> ?_) (λc7=> ?_)
 ·have c3:cq (b9 z0 z1 z2 z3 z4 z5 z6 z7 z8 z9 z10 z11 z12 z13 z14 z15 z16 z17 z18 w)=false:=by rw [hall,decide_eq_false (bX c)];simp
  exact cR (by rw [hP,c3];rfl) (.le (.nil 1))
 replace c7:z7=255:=bZ c7
 refine ak (λc=> ?_) (λc8=> ?_)
 ·have c3:cq (b9 z0 z1 z2 z3 z4 z5 z6 z7 z8 z9 z10 z11 z12 z13 z14 z15 z16 z17 z18 w)=false:=by rw [hall,decide_eq_false (bX c)];simp
  exact cR (by rw [hP,c3];rfl) (.le (.nil 1))
 replace c8:z8=255:=bZ c8
 refine ak (λc=> ?_) (λc9=> ?_)
 ·have c3:cq (b9 z0 z1 z2 z3 z4 z5 z6 z7 z8 z9 z10 z11 z12 z13 z14 z15 z16 z17 z18 w)=false:=by rw [hall,decide_eq_false (bX c)];simp
  exact cR (by rw [hP,c3];rfl) (.le (.nil 1))
 replace c9:z9=255:=bZ c9
 refine ak (λc=> ?_) (λc10=> ?_)
 ·have c3:cq (b9 z0 z1 z2 z3 z4 z5 z6 z7 z8 z9 z10 z11 z12 z13 z14 z15 z16 z17 z18 w)=false:=by rw [hall,decide_eq_false (bX c)];simp
  exact cR (by rw [hP,c3];rfl) (.le (.nil 1))
 replace c10:z10=255:=bZ c10
 refine ak (λc=> ?_) (λc11=> ?_)
 ·have c3:cq (b9 z0 z1 z2 z3 z4 z5 z6 z7 z8 z9 z10 z11 z12 z13 z14 z15 z16 z17 z18 w)=false:=by rw [hall,decide_eq_false (bX c)];simp
  exact cR (by rw [hP,c3];rfl) (.le (.nil 1))
 replace c11:z11=255:=bZ c11
 refine ak (λc=> ?_) (λc12=> ?_)
 ·have c3:cq (b9 z0 z1 z2 z3 z4 z5 z6 z7 z8 z9 z10 z11 z12 z13 z14 z15 z16 z17 z18 w)=false:=by rw [hall,decide_eq_false (bX c)];simp
  exact cR (by rw [hP,c3];rfl) (.le (.nil 1))
 replace c12:z12=255:=bZ c12
 refine ak (λc=> ?_) (λc13=> ?_)
 ·have c3:cq (b9 z0 z1 z2 z3 z4 z5 z6 z7 z8 z9 z10 z11 z12 z13 z14 z15 z16 z17 z18 w)=false:=by rw [hall,decide_eq_false (bX c)];simp
  exact cR (by rw [hP,c3];rfl) (.le (.nil 1))
 replace c13:z13=255:=bZ c13
 refine ak (λc=> ?_) (λc14=> ?_)
 ·have c3:cq (b9 z0 z1 z2 z3 z4 z5 z6 z7 z8 z9 z10 z11 z12 z13 z14 z15 z16 z17 z18 w)=false:=by rw [hall,decide_eq_false (bX c)];simp
  exact cR (by rw [hP,c3];rfl) (.le (.nil 1))
 replace c14:z14=255:=bZ c14
 refine ak (λc=> ?_) (λc15=> ?_)
 ·have c3:cq (b9 z0 z1 z2 z3 z4 z5 z6 z7 z8 z9 z10 z11 z12 z13 z14 z15 z16 z17 z18 w)=false:=by rw [hall,decide_eq_false (bX c)];simp
  exact cR (by rw [hP,c3];rfl) (.le (.nil 1))
 replace c15:z15=255:=bZ c15
 have c3:cq (b9 z0 z1 z2 z3 z4 z5 z6 z7 z8 z9 z10 z11 z12 z13 z14 z15 z16 z17 z18 w)=true:=by rw [hall,decide_eq_true c0,decide_eq_true c1,decide_eq_true c2,decide_eq_true c3,decide_eq_true c4,decide_eq_true c5,decide_eq_true c6,decide_eq_true c7,decide_eq_true c8,decide_eq_true c9,decide_eq_true c10,decide_eq_true c11,decide_eq_true c12,decide_eq_true c13,decide_eq_true c14,decide_eq_true c15];rfl
 rw [c3,cond_true] at hP
 refine ak (λd1=> ?_) (λd1=> ?_)
 ·exact cR (by rw [hP,if_pos (.inl (of_decide_eq_true d1))]) (qH rfl)
 replace d1:=of_decide_eq_false d1
 refine ak (λd2=> ?_) (λd2=> ?_)
 ·exact cR (by rw [hP,if_pos (.inr (of_decide_eq_true d2))]) (qH rfl)
 replace d2:=of_decide_eq_false d2
 rw [if_neg (show ¬(n<19∨n>4096) by omega)] at hP
 refine ak (λd3=> ?_) (λd3=> ?_)
 ·exact cR (by rw [hP,if_pos (.inl (of_decide_eq_true d3))];rfl) (.le (.vec 1 _ _))
 replace d3:=of_decide_eq_false d3
 refine ak (λd4=> ?_) (λd4=> ?_)
 ·exact cR (by rw [hP,if_pos (.inr (of_decide_eq_true d4))];rfl) (.le (.vec 1 _ _))
 replace d4:=of_decide_eq_false d4
 rw [if_neg (show ¬(z18<1∨z18>4) by omega)] at hP
 refine ⟨Kt (by omega) (by omega),?_⟩
 refine ak (λd5=> ?_) (λd5=> ?_)
 ·exact cR (by rw [hP,if_pos (.inl (of_decide_eq_true d5))]) (qH rfl)
 replace d5:=of_decide_eq_false d5
 refine ak (λd6=> ?_) (λd6=> ?_)
 ·replace d6:=bM d6
  refine ak (λd7=> ?_) (λd7=> ?_)
  ·replace d7:=bX d7
   exact cR (by rw [hP,if_pos (.inr ⟨d6,by omega⟩)]) (qH rfl)
  ·replace d7:=bZ d7
   exact oD (by rw [hP,if_neg (by omega)])
 ·replace d6:=bB d6
  exact oD (by rw [hP,if_neg (by omega)])
theorem Ku {G:aV}(hG:dd G){f:FuncId}(h:∀{b:Bs},IsB b→VCx prog G 0 f [.vec 1 b .none] ⟨[],[]⟩ λx T'=>x=mp b∧T'=⟨[],[]⟩):∀ro ys T K,Gm ro ys T K→VCx prog G ro f ys T K:=by
 intro ro ys T K hw
 unfold Gm at hw
 split at hw
 ·rename_i b tok
  refine VCx.loosePure hG (h hw.1) (by simp [cA]) (by simp [aB,TV.ren,hw.1.ren,Tok.ren]) (λf h=>lv hw.1 f h) ?_
  have h2:=hw.2
  cases hh:cK b<;>rw [hh] at h2
  ·rw [rz hh];exact h2
  ·rw [ry hh];exact h2
 ·exact hw.elim
theorem Ri {G:aV}(hG:dd G){f:FuncId}(h:∀{b:Bs} (pas:Int),IsB b→VCx prog G 0 f [.vec 1 b .none,.val (.int .i64 pas)] ⟨[],[]⟩ λx T'=>x=fZ b pas∧T'=⟨[],[]⟩):∀ro ys T K,Ih ro ys T K→VCx prog G ro f ys T K:=by
 intro ro ys T K hw
 unfold Ih at hw
 split at hw
 ·rename_i b tok pas
  refine VCx.loosePure hG (h pas hw.1) (by simp [cA]) (by simp [aB,TV.ren,hw.1.ren,Tok.ren]) (λf h=>zM pas hw.1 f h) ?_
  have h2:=hw.2
  cases hh:gl b pas<;>rw [hh] at h2
  ·rw [Ea hw.1 hh];exact h2
  ·rw [D9 hw.1 hh];exact h2
 ·exact hw.elim
theorem Rj {G:aV}(hG:dd G){f:FuncId}(h:∀{b:Bs},IsB b→VCx prog G 0 f [.vec 1 b .none] ⟨[],[]⟩ λx T'=>x=jY b∧T'=⟨[],[]⟩):∀ro ys T K,Ii ro ys T K→VCx prog G ro f ys T K:=by
 intro ro ys T K hw
 unfold Ii at hw
 split at hw
 ·rename_i b tok
  refine VCx.loosePure hG (h hw.1) (by simp [cA]) (by simp [aB,TV.ren,hw.1.ren,Tok.ren]) (λf h=>zH hw.1 f h) ?_
  have h2:=hw.2
  cases hh:gM b<;>rw [hh] at h2
  ·rw [Ks hh];exact h2
  ·rw [Kr hh];exact h2
 ·exact hw.elim
theorem Rk {G:aV}(hG:dd G){f:FuncId}(h:∀{b:Bs},IsB b→VCx prog G 0 f [.vec 1 b .none] ⟨[],[]⟩ λx T'=>x=tZ b∧T'=⟨[],[]⟩):∀ro ys T K,Ij ro ys T K→VCx prog G ro f ys T K:=by
 intro ro ys T K hw
 unfold Ij at hw
 split at hw
 ·rename_i b tok
  refine VCx.loosePure hG (h hw.1) (by simp [cA]) (by simp [aB,TV.ren,hw.1.ren,Tok.ren]) (λf h=>zW hw.1 f h) ?_
  have h2:=hw.2
  rw [up]
  cases hh:fv b<;>rw [hh] at h2<;>exact h2
 ·exact hw.elim
section
variable {b:Bs}{pas:Int}
def jG:TV:=.val (.slice none 0 0)
theorem OT:TVle (.agg [.val (.int .i64 0),.val (.int .i64 0),.val (.int .i64 0),.val (.int .u32 0),jG,jG,.val (.int .i64 0),jG,.val (.int .u32 0),.val (.int .i64 0),.val (.bool false),jG,.val (.int .i64 0),.val (.int .i64 0),jG]) (.agg m0.cells):=
 .agg ⟨.refl _,.refl _,.refl _,.refl _,.nil 2,.nil 2,.refl _,.nil 1,.refl _,.refl _,.refl _,.nil 2,.refl _,.refl _,.nil 1,trivial⟩
theorem pv {c s:Int}{d:Bs}{dz:TV}{T':VT}(h:fh b pas=.inl (c,s,d))(hd:FzX T' dz (.vec 1 d .none)):FzX T' (.tup [.agg [.val (.int .i64 0),.val (.int .i64 0),.val (.int .i64 0),.val (.int .u32 0),jG,jG,.val (.int .i64 0),jG,.val (.int .u32 0),.val (.int .i64 0),.val (.bool false),jG,.val (.int .i64 0),.val (.int .i64 0),jG],.agg [.val (.int .i64 c),.val (.int .i64 s),dz]]) (pu b pas):=by
 obtain ⟨T2,h1,h2⟩:=hd
 unfold pu Gk
 rw [h]
 exact ⟨T2,.tup (.cons (.le OT) (.cons (.agg (.le (.le (.cons h1 .nil)))) .nil)),h2⟩
theorem vn {m:MsgS}{l:List TV}{T':VT}(h:fh b pas=.inr m)(hm:TVleL l m.cells):FzX T' (.tup [.agg l,.agg [.val (.int .i64 0),.val (.int .i64 0),jG]]) (pu b pas):=by
 unfold pu Gk
 rw [h]
 exact .le (.tup ⟨.agg hm,.agg ⟨.refl _,.refl _,.nil 1,trivial⟩,trivial⟩)
theorem zY (h:cK b=false):fh b pas=.inl (1,ga b,fH b):=by unfold fh;rw [h];rfl
theorem Kv (h:cK b=true)(hl:b.length<19):fh b pas=.inl (1,2,[]):=by unfold fh;rw [h,cond_true,if_pos hl]
theorem Eg (h:cK b=true)(hl:¬b.length<19):fh b pas=if ¬bA b=b.length then .inl (1,2,mc b) else
 if cU b=1 then (bif gl (b.drop 19) pas then .inr {m0 with k:=cU b,op:=ui (b.drop 19) pas} else .inl (2,pq (b.drop 19) pas,j9 (b.drop 19) pas))
 else if cU b=2 then (bif gM (b.drop 19) then .inr {m0 with k:=cU b,u:=nQ (b.drop 19)} else .inl (3,pt (b.drop 19),ka (b.drop 19)))
 else if cU b=3 then (bif fv (b.drop 19) then .inr {m0 with k:=cU b,c:=uj (b.drop 19),s:=un (b.drop 19),d:=uo (b.drop 19)} else .inl (1,2,mc b))
 else .inr {m0 with k:=cU b}:=by unfold fh;rw [h,cond_true,if_neg hl]
end
set_option maxHeartbeats 1000000 in
theorem Rl {b:Bs}(hb:IsB b)(pas:Int):VCx prog ah 0 vl [.vec 1 b .none,.val (.int .i64 pas)] ⟨[],[]⟩ λx T'=>x=pu b pas∧T'=⟨[],[]⟩:=by
 have hS1:bk prog ah (aI [(jU,Gm)]):=aQ λp hp=>by
  obtain rfl:=mem_singleton.1 hp;exact Ku aP vm
 have hS2:bk prog ah (aI [(jU,Gm),(ir,Ih),(OK,Ii),(H0,Ij)]):=aQ λp hp=>by
  rcases mem_cons.1 hp with rfl | hp;exact Ku aP vm
  rcases mem_cons.1 hp with rfl | hp;exact Ri aP λpas h=>TN h pas
  rcases mem_cons.1 hp with rfl | hp;exact Rj aP Um
  obtain rfl:=mem_singleton.1 hp;exact Rk aP QI
 refine VCx.fz0 (vk pas hb) ?_
 by_cases hlen:b.length<19
 ·refine aj ag ac hS1 ai (Rh b pas _) ?_
  refine ⟨hb,ak (λc1=> ?_) (λc1=> ?_)⟩
  ·exact aU (decide_eq_true (show ((b.length:Nat):Int)<19 by omega)) (pv (Kv c1 hlen) (.le (.nil 1)))
  ·exact pv (zY c1) (.le (.refl _))
 obtain ⟨z0,z1,z2,z3,z4,z5,z6,z7,z8,z9,z10,z11,z12,z13,z14,z15,z16,z17,z18,w,rfl,i0,i1,i2,i3,i4,i5,i6,i7,i8,i9,i10,i11,i12,i13,i14,i15,i16,i17,i18⟩:=Ee hb (by omega)
 have hd:IsB w:=hb.drop 19
 change IsB (Ed (bT z0) (bT z1) (bT z2) (bT z3) (bT z4) (bT z5) (bT z6) (bT z7) (bT z8) (bT z9) (bT z10) (bT z11) (bT z12) (bT z13) (bT z14) (bT z15) (bT z16) (bT z17) (bT z18) w) at hb
 change ¬(Ed (bT z0) (bT z1) (bT z2) (bT z3) (bT z4) (bT z5) (bT z6) (bT z7) (bT z8) (bT z9) (bT z10) (bT z11) (bT z12) (bT z13) (bT z14) (bT z15) (bT z16) (bT z17) (bT z18) w).length<19 at hlen
 have hsz:mc (Ed (bT z0) (bT z1) (bT z2) (bT z3) (bT z4) (bT z5) (bT z6) (bT z7) (bT z8) (bT z9) (bT z10) (bT z11) (bT z12) (bT z13) (bT z14) (bT z15) (bT z16) (bT z17) (bT z18) w)= [bT z16,bT z17]:=rfl
 have hdr:(Ed (bT z0) (bT z1) (bT z2) (bT z3) (bT z4) (bT z5) (bT z6) (bT z7) (bT z8) (bT z9) (bT z10) (bT z11) (bT z12) (bT z13) (bT z14) (bT z15) (bT z16) (bT z17) (bT z18) w).drop 19=w:=rfl
 refine aj ag ac hS2 ai (Us (bT z0) (bT z1) (bT z2) (bT z3) (bT z4) (bT z5) (bT z6) (bT z7) (bT z8) (bT z9) (bT z10) (bT z11) (bT z12) (bT z13) (bT z14) (bT z15) (bT z16) (bT z17) (bT z18) w pas _) ?_
 refine ⟨hb,ak (λc1=> ?_) (λc1=> ?_)⟩
 rotate_left
 ·exact pv (zY c1) (.le (.refl _))
 have hP:=Eg (b:=Ed (bT z0) (bT z1) (bT z2) (bT z3) (bT z4) (bT z5) (bT z6) (bT z7) (bT z8) (bT z9) (bT z10) (bT z11) (bT z12) (bT z13) (bT z14) (bT z15) (bT z16) (bT z17) (bT z18) w) (pas:=pas) c1 hlen
 rw [hsz,hdr] at hP
 refine ak (λc2=> ?_) (λc2=> ?_)
 ·exact pv (hP.trans (if_pos (bX c2))) (qH rfl)
 rw [if_neg (λc=>c (bZ c2))] at hP
 refine ak (λc3=> ?_) (λc3=> ?_)
 ·rw [if_pos (bM c3)] at hP
  refine ⟨hd,ak (λc4=> ?_) (λc4=> ?_)⟩
  ·exact vn (hP.trans (by rw [show gl w pas=true from c4];rfl)) ⟨.refl _,.refl _,.refl _,.refl _,.refl _,.nil 2,.refl _,.nil 1,.refl _,.refl _,.refl _,.nil 2,.refl _,.refl _,.nil 1,trivial⟩
  ·exact pv (hP.trans (by rw [show gl w pas=false from c4];rfl)) (.le (.refl _))
 rw [if_neg (bB c3)] at hP
 refine ak (λc5=> ?_) (λc5=> ?_)
 ·rw [if_pos (bM c5)] at hP
  refine ⟨hd,ak (λc4=> ?_) (λc4=> ?_)⟩
  ·exact vn (hP.trans (by rw [show gM w=true from c4];rfl)) ⟨.refl _,.refl _,.refl _,.refl _,.nil 2,.refl _,.refl _,.refl _,.refl _,.refl _,.refl _,.refl _,.refl _,.refl _,.nil 1,trivial⟩
  ·exact pv (hP.trans (by rw [show gM w=false from c4];rfl)) (.le (.refl _))
 rw [if_neg (bB c5)] at hP
 refine ak (λc6=> ?_) (λc6=> ?_)
 ·rw [if_pos (bM c6)] at hP
  refine ⟨hd,ak (λc4=> ?_) (λc4=> ?_)⟩
  ·exact vn (hP.trans (by rw [show fv w=true from c4];rfl)) ⟨.refl _,.refl _,.refl _,.refl _,.nil 2,.nil 2,.refl _,.nil 1,.refl _,.refl _,.refl _,.nil 2,.refl _,.refl _,.refl _,trivial⟩
  ·exact pv (hP.trans (by rw [show fv w=false from c4];rfl)) (qH rfl)
 rw [if_neg (bB c6)] at hP
 exact vn hP ⟨.refl _,.refl _,.refl _,.refl _,.nil 2,.nil 2,.refl _,.nil 1,.refl _,.refl _,.refl _,.nil 2,.refl _,.refl _,.nil 1,trivial⟩
section
variable {P:Program}{G:aV}
theorem vp {j len:Nat}(h:j<len)(hlen:len≤64000000):wrap i64 (((j:Nat):Int)+(1:Int))=((j+1:Nat):Int):=by
 simp only [wrap,IntKind.bits,signed];simp;omega
theorem vq {f:FuncId}{id:Nat}(hc:kj id (aA P f id)=true)(n:Nat)(keys:List Nat)(sl:Int→List TV)(T:VT)(len:Nat)(Post:Exit→List TV→VT→Prop)
  (hbody:∀j:Nat,j≤len→VWx P G none 0 (cM P f id) (aJ n keys (sl j)) T [] (de keys λe vs T' D m=>D= []∧m=n∧match e with
   | .normal=>j<len∧((T'=T∧vs=sl (j+1:Nat))∨(T'.keep T.objs.length T.tails.length=T∧aB (ax T.objs.length) (ax T.tails.length) vs=sl (j+1:Nat)))
   | .exit i=>cond (beq i id) (Post .normal vs T') (Post (.exit i) vs T')
   |e=>Post e vs T')):
  ∀K:KX,(∀e vs T',Post e vs T'→K e (aJ n keys vs) T' [])→VWx P G none 0 (aA P f id) (aJ n keys (sl (0:Nat))) T [] K:=by
 intro K hK
 refine dW (f:=f) (id:=id) hc n keys (λj:Nat=>len-j) (λj:Nat=>sl j) (λ_=>T) (λj=>j≤len) T.objs.length T.tails.length (λ_ _=>⟨le_refl _,le_refl _⟩) Post (λj hj=> ?_) 0 (zero_le _) K hK
 refine (hbody j hj).mono λe σ T' D hq=> ?_
 obtain ⟨h1,h2,h3⟩:=hq
 refine ⟨h1,h2,?_⟩
 cases e
 case normal=>
  obtain ⟨hlt,h4⟩:=h3
  refine ⟨j+1,hlt,by show len-(j+1)<len-j;omega,?_⟩
  exact h4
 case exit i=>exact h3
 all_goals exact h3
end
theorem ym:∀l:List Int,lf (bV l)=some l
 |[]=>rfl
 |z::l=>by
  have h:=ym l
  simp only [bV,map_cons] at h ⊢
  simp only [bT,lf,h]
  rfl
def ur (d:Bs):ByteArray:=Bw ((lf d).getD [])
theorem XG (s:ByteArray):aq eql (aT (.string s) (.string s))=true:=by
 have h:=(IJ (c:=.str) (x:=.string s) (y:=.string s) rfl rfl).2 rfl
 simp [aq,aT,h]
theorem XH (s:ByteArray):aq neq (aT (.string s) (.string s))=false:=by
 have h:=(IJ (c:=.str) (x:=.string s) (y:=.string s) rfl rfl).2 rfl
 simp [aq,aT,h]
theorem Il (k:IntKind)(z:Int):dh (.int k z) (.int k z)=true:=by simp [dh]
theorem fj (k:IntKind)(z:Int):aq neq (aT (.int k z) (.int k z))=false:=by simp [aq,aT,dh]
theorem yn (k:IntKind)(z:Int):aq eql (aT (.int k z) (.int k z))=true:=by simp [aq,aT,dh]
theorem Rm (b:Bool):aq neq (aT (.bool b) (.bool b))=false:=by simp [aq,aT,dh]
theorem yp:∀l:List Value,(∀v∈l,dh v v=true)→fm l l=true
 |[],_=>rfl
 |v::l,h=>by
  unfold fm
  rw [h v List.mem_cons_self,cond_true]
  exact yp l λw hw=>h w (List.mem_cons_of_mem _ hw)
theorem Wy (l:List Value)(h:∀v∈l,dh v v=true):aq neq (aT (.agg l.toArray) (.agg l.toArray))=false:=by
 have e:aT (.agg l.toArray) (.agg l.toArray)=fm l l:=by simp [aT]
 rw [e,yp l h];rfl
--bumped 32
def fA (z:Int):TV:=.val (.int .u8 z)
def aD (cs:List TV)(off n:Nat):Bs:=dN 1 n ((cs.drop off).take n)
def RwOk (cs:List TV)(off n:Nat):Prop:=off+n≤cs.length∧cs.length≤32000000∧∃l:List Int,cs=l.map fA∧∀z∈l,0≤z∧z<256
theorem Be:∀l:List Int,dN 1 l.length (l.map fA)=bV l
 |[]=>rfl
 |z::l=>by
  have h:=Be l
  simp only [length_cons,map_cons,dN,take_succ_cons,take_zero,List.drop_succ_cons,List.drop_zero,h]
  rfl
theorem oe {l:List Int}{off n:Nat}(h:off+n≤l.length):aD (l.map fA) off n=bV ((l.drop off).take n):=by
 have e:((l.map fA).drop off).take n=((l.drop off).take n).map fA:=by rw [←List.map_drop,←List.map_take]
 have hl:((l.drop off).take n).length=n:=by rw [length_take,List.length_drop];omega
 have h2:=Be ((l.drop off).take n)
 rw [hl] at h2
 unfold aD
 rw [e,h2]
theorem iN (cs:List TV)(off n:Nat):(aD cs off n).length=n:=nX 1 n _
section
variable {cs:List TV}{off n:Nat}
theorem RwOk.is (h:RwOk cs off n):IsB (aD cs off n):=by
 obtain ⟨h1,h2,l,rfl,hl⟩:=h
 rw [length_map] at h1 h2
 refine ⟨⟨(l.drop off).take n,oe h1,λz hz=>hl z (List.mem_of_mem_drop (List.mem_of_mem_take hz))⟩,?_⟩
 rw [iN];omega
theorem RwOk.sub (h:RwOk cs off n){o m:Nat}(h2:o+m≤cs.length):RwOk cs o m:=⟨h2,h.2.1,h.2.2⟩
theorem Kw (f g:Nat→Option Nat):∀l:List Int,aB f g (l.map fA)=l.map fA
 |[]=>rfl
 |z::l=>by simp only [map_cons,aB,Kw f g l];rfl
theorem RwOk.ren (h:RwOk cs off n)(f g:Nat→Option Nat):(VO.row cs).ren f g=.row cs:=by
 obtain ⟨_,_,l,rfl,_⟩:=h
 simp only [VO.ren,Kw]
theorem Rn (h:RwOk cs off n){m:Nat}(hm:m≤n):(aD cs off n).drop m=aD cs (off+m) (n-m):=by
 obtain ⟨h1,h2,l,rfl,hl⟩:=h
 rw [length_map] at h1
 rw [oe h1,oe (by omega),bV,bV,←List.map_drop,List.drop_take,List.drop_drop]
theorem Ro (h:RwOk cs off n){m:Nat}(hm:m≤n):(aD cs off n).take m=aD cs off m:=by
 obtain ⟨h1,h2,l,rfl,hl⟩:=h
 rw [length_map] at h1
 rw [oe h1,oe (by omega),bV,bV,←List.map_take,List.take_take,Nat.min_eq_left hm]
end
section
variable {P:Program}{G:aV}
theorem VCx.fzRow {f:FuncId}{xs:List TV}{cs:List TV}{y:TV}(hc:∀f g,(VO.row cs).ren f g=.row cs)(hy:∀f g,y.ren f g=y)(h:VCx P G 0 f xs ⟨[.row cs],[]⟩ λx T'=>∃T2,FzLe T' x y T2∧T'.objs.length≤T2.objs.length∧T2.objs[0]?=some (.row cs)):
  VCx P G 0 f xs ⟨[.row cs],[]⟩ λx T'=>x=y∧T'=⟨[.row cs],[]⟩:=by
 refine VCx.keepQ 1 0 (le_refl _) (le_refl _) ((VCx.toFz (y:=y) (Q:=λT2=>T2.objs[0]?=some (.row cs)) h).mono ?_)
 rintro x T' ⟨rfl,h0⟩
 refine ⟨hy _ _,?_⟩
 obtain ⟨objs,tails⟩:=T'
 cases objs with
 |nil=>simp at h0
 |cons o l=>
  simp at h0;subst h0
  simp only [VT.keep,take_succ_cons,take_zero,map_cons,map_nil,hc]
theorem VCx.atRow {f:FuncId}{ro k:Nat}{cs:List TV}{ys0 ys1:List TV}{y:TV}{T:VT}{K:TV→VT→Prop}(hG:dd G)(hro:ro≤k)(ho:T.objs[k]?=some (.row cs))(hc:∀f g,(VO.row cs).ren f g=.row cs)(hy:∀f g,y.ren f g=y)(hx:aB (bb [k]) (bb []) ys0=ys1)
  (hv:VCx P G 0 f ys1 ⟨[.row cs],[]⟩ λx T'=>x=y∧T'=⟨[.row cs],[]⟩) (hk:K y T):VCx P G ro f ys0 T K:=by
 refine VCx.at1 (Q:=λx o' l'=>x=y∧o'=.row cs∧l'= []) hG hro ho rfl (hc _ _) hx (hv.mono λx T' ⟨h1,h2⟩=>⟨_,_,h2,h1,rfl,rfl⟩) ?_
 rintro x o' l' ⟨rfl,rfl,rfl⟩
 rw [hy,hc,jC ho]
 simpa using hk
theorem Im {ro:Nat}{T:VT}{t e tx:TypeId}{s x:Operand}{l:List (Nat × TV)}{inf:TypeInfo}{z:Value}{q0:List TV}{qs:List (List TV)}{id off n:Nat}(ht:P.underlying t=some (.slice e))(hi:P.info? e=some inf)(hz:inf.zero=some z)(hzs:z.cells.size=inf.size)(hz1:z.cells.toList.all oneCell'=true)
  (hsl:gk (P.underlying tx)=true) (hs:aL G l s=.vec inf.size [] .full) (hx:aL G l x=.row inf.size id off n) (hr:cd T inf.size (.row inf.size id off n)=some (q0::qs)) (hb:(q0::qs).length*(inf.bytes+1)≤140737488355328):
  br P G ro T (.call ⟨.builtin .append,#[s,x],#[t,tx]⟩) l (.row inf.size T.objs.length 0 (q0::qs).length) (T.newRow (q0::qs).flatten):=by
 refine .mk ?_
 have h1:bu P (.call ⟨.builtin .append,#[s,x],#[t,tx]⟩) (aL G l)=none:=by simp [bu,eJ]
 have h2:bs P T (.call ⟨.builtin .append,#[s,x],#[t,tx]⟩) (aL G l)=none:=by simp [bs,dV,jq]
 have h4:lG P T t tx (.vec inf.size [] .full) (.row inf.size id off n)=none:=by simp [lG,ht]
 have h3:lF P ro T t tx (.vec inf.size [] .full) (.row inf.size id off n)=some (.row inf.size T.objs.length 0 (q0::qs).length,T.newRow (q0::qs).flatten):=by
  unfold lF
  simp only [ht,hi,hz,hr,hzs,decide_true,hz1,hsl,Bool.and_self,cond_true,beq_refl,length_nil,zero_add,List.flatten_nil,List.nil_append,Nat.ble_eq_true_of_le hb]
 have h5:rQ P ro T t tx (.vec inf.size [] .full) (.row inf.size id off n)=none:=rfl
 simp only [gH,h1,h2,lH,hs,hx,hsl,h4,h5,h3,cond_true]
theorem In {ro:Nat}{T:VT}{t e tx:TypeId}{s x:Operand}{l:List (Nat × TV)}{inf:TypeInfo}{z:Value}{id off n:Nat}(ht:P.underlying t=some (.slice e))(hi:P.info? e=some inf)(hz:inf.zero=some z)(hzs:z.cells.size=inf.size)(hz1:z.cells.toList.all oneCell'=true)
  (hsl:gk (P.underlying tx)=true) (hs:aL G l s=.vec inf.size [] .full) (hx:aL G l x=.row inf.size id off n) (hr:cd T inf.size (.row inf.size id off n)=some []):
  br P G ro T (.call ⟨.builtin .append,#[s,x],#[t,tx]⟩) l (.vec inf.size [] .full) T:=by
 refine .mk ?_
 have h1:bu P (.call ⟨.builtin .append,#[s,x],#[t,tx]⟩) (aL G l)=none:=by simp [bu,eJ]
 have h2:bs P T (.call ⟨.builtin .append,#[s,x],#[t,tx]⟩) (aL G l)=none:=by simp [bs,dV,jq]
 have h4:lG P T t tx (.vec inf.size [] .full) (.row inf.size id off n)=none:=by simp [lG,ht]
 have h3:lF P ro T t tx (.vec inf.size [] .full) (.row inf.size id off n)=some (.vec inf.size [] .full,T):=by
  unfold lF
  simp only [ht,hi,hz,hr,hzs,decide_true,hz1,hsl,Bool.and_self,cond_true,beq_refl]
 have h5:rQ P ro T t tx (.vec inf.size [] .full) (.row inf.size id off n)=none:=rfl
 simp only [gH,h1,h2,lH,hs,hx,hsl,h4,h5,h3,cond_true]
theorem Gn (T:VT)(i:Nat):T.objs.length≤(T.kill i).objs.length:=by simp [VT.kill]
end
--bumped 32
end Go.Proofs.YtogbdjlelkepcaaGreatDoor