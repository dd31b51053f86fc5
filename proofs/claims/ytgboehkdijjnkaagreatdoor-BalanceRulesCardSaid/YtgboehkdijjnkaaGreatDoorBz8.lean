/-Part 8 of the proof of balanceRulesCard_holds:BrE,BrC,BrD ... No condition. -/
import Derived.ProofKit
import Derived.OpenShut
import Derived.Lib.SmallJoins
import Derived.LaidMore
import Derived.Lay
import Derived.LaidHandle
import Derived.ChangeVars
import Derived.JoinedOf
import Derived.Stop.Joined
import Derived.Test.YtgboehkdijjnkaaGreatDoorTie
import Derived.Test.YtgboehkdijjnkaaGreatDoorCards
import Derived.SevenTiedAt
import Derived.Test.YtgboehkdijjnkaaGreatDoorBz1
import Derived.Test.YtgboehkdijjnkaaGreatDoorBz2
import Derived.Test.YtgboehkdijjnkaaGreatDoorBz3
import Derived.Test.YtgboehkdijjnkaaGreatDoorBz4
import Derived.Test.YtgboehkdijjnkaaGreatDoorBz5
import Derived.Test.YtgboehkdijjnkaaGreatDoorBz6
import Derived.Test.YtgboehkdijjnkaaGreatDoorBz7
set_option maxRecDepth 100000
namespace Go.Proofs.YtgboehkdijjnkaaGreatDoor
open Go.RowKit
open Go.BinOp (eql neq)
open Go.DataW (Trod trod_lt)
open Go.IntKind (i64 u32 wrap)
open _root_.List (length length_map mem_cons not_mem_nil toArray)
open _root_.Nat (le_refl)
open Go.OpenSpec (ofChange)
open _root_.Option (getD_some)
open _root_.Prod (fst snd)
open Go.Proofs.Tryz (checked func3 params3 prog)
open Go.Proofs.YtgboehkdijjnkaaGreatDoor.Tryz (pinned)
open Go.Value (okWide)
def Lf (lt:Bool)(w:Wd):FuncId→Option aZ:=aE [(ER,sD),(Dk,fu [.agg w.cells] (.val (.bool lt))),(ej,λ_ _ _ _=>False)]
def Ji (sc:Int→Int→Int→Int):List TV→Option TV
 |[.val (.int .u64 k),.val (.int .i64 i),.val (.int .i64 w)]=>some (.val (.int .u64 (sc k i w)))
 |_=>none
theorem KC (w:Wd)(Q:TV→VT→Prop):aK prog ae c9 bv 300 bq 0 Dk [.agg w.cells] jc Q=
 (bif decide ((↑(length (Wd.B w)):Int)≤(40:Int))
 then (bif decide ((↑(length (Wd.S w)):Int)≤(40:Int))
 then Q (eF (decide ((↑(length (Wd.F w)):Int)≤(100:Int)))) ⟨[(dZ (Wd.pc w) (Wd.B w) (Wd.U w) (Wd.D w) (Wd.S w) (Wd.C w) (Wd.F w) (Wd.W w))],[]⟩
 else Q bX ⟨[(dZ (Wd.pc w) (Wd.B w) (Wd.U w) (Wd.D w) (Wd.S w) (Wd.C w) (Wd.F w) (Wd.W w))],[]⟩)
 else Q bX ⟨[(dZ (Wd.pc w) (Wd.B w) (Wd.U w) (Wd.D w) (Wd.S w) (Wd.C w) (Wd.F w) (Wd.W w))],[]⟩):=by kernel_rfl
theorem KD (lt:Bool)(w:Wd)(f:Fl)(now:Int)(tun:Bool)(Q:TV→VT→Prop):aK prog ae (Lf lt w) bv 300 bq 0 oe [.agg w.cells,.agg (dR f now tun)] jc Q=
 ((@Eq (List TV) (tH (Wd.pc w) (Wd.B w) (Wd.U w) (Wd.D w) (Wd.S w) (Wd.C w) (Wd.F w) (Wd.W w)) (tH (Wd.pc w) (Wd.B w) (Wd.U w) (Wd.D w) (Wd.S w) (Wd.C w) (Wd.F w) (Wd.W w)))∧
 (bif !lt
 then Q fH (E5 (Wd.pc w) (Wd.B w) (Wd.U w) (Wd.D w) (Wd.S w) (Wd.C w) (Wd.F w) (Wd.W w) (fst f) (fst (snd f)) (fst (snd (snd f))) (fst (snd (snd (snd f)))) (snd (snd (snd (snd f)))) now tun)
 else False)):=by kernel_rfl
theorem KE (lt:Bool)(w:Wd)(f:Fl)(now:Int)(tun:Bool)(key:Int)(R:(Nat→VO)→Prop)(Pre:List VO→Prop)(WW:List VO→Int→Int→Int→Bool→Prop)(WF:List VO→En→Bool→Prop)(WU:List VO→Int→Bool→Prop)(WG:List VO→Int→Bk→Bool→Prop)(WQ:List VO→Bool→Prop)(WL:List VO→Bs→Prop)(WB:List VO→Bk→Bool→Prop)(Lp:Bs→VT→Prop)(Q:TV→VT→Prop):aK prog ae (Lc lt w f now tun key R Pre WW WF WU WG WQ WL WB) bv 300 (Lb key Lp (av prog oe 0)) 0 oe [.agg w.cells,.agg (dR f now tun)] jc Q=
 ((@Eq (List TV) (tH (Wd.pc w) (Wd.B w) (Wd.U w) (Wd.D w) (Wd.S w) (Wd.C w) (Wd.F w) (Wd.W w)) (tH (Wd.pc w) (Wd.B w) (Wd.U w) (Wd.D w) (Wd.S w) (Wd.C w) (Wd.F w) (Wd.W w)))∧
 (bif !lt
 then Q fH (E5 (Wd.pc w) (Wd.B w) (Wd.U w) (Wd.D w) (Wd.S w) (Wd.C w) (Wd.F w) (Wd.W w) (fst f) (fst (snd f)) (fst (snd (snd f))) (fst (snd (snd (snd f)))) (snd (snd (snd (snd f)))) now tun)
 else (((@Eq (Nat) 0 0)∧
 ((@Eq (List TV) (tH (Wd.pc w) (Wd.B w) (Wd.U w) (Wd.D w) (Wd.S w) (Wd.C w) (Wd.F w) (Wd.W w)) (tH (Wd.pc w) (Wd.B w) (Wd.U w) (Wd.D w) (Wd.S w) (Wd.C w) (Wd.F w) (Wd.W w)))∧
 (@Eq (VT) (E5 (Wd.pc w) (Wd.B w) (Wd.U w) (Wd.D w) (Wd.S w) (Wd.C w) (Wd.F w) (Wd.W w) (fst f) (fst (snd f)) (fst (snd (snd f))) (fst (snd (snd (snd f)))) (snd (snd (snd (snd f)))) now tun) (E5 (Wd.pc w) (Wd.B w) (Wd.U w) (Wd.D w) (Wd.S w) (Wd.C w) (Wd.F w) (Wd.W w) (fst f) (fst (snd f)) (fst (snd (snd f))) (fst (snd (snd (snd f)))) (snd (snd (snd (snd f)))) now tun))))∧
 (∀y:Nat→VO,(R (y)→(((@Eq (Nat) 0 0)∧
 ((@Eq (List TV) [hP,jb,(.ptr 11 0),(hZ (fst f) (fst (snd f)) (fst (snd (snd f))) (fst (snd (snd (snd f)))) (snd (snd (snd (snd f))))),(ar now),(eF tun)] [hP,jb,(.ptr 11 0),(hZ (fst f) (fst (snd f)) (fst (snd (snd f))) (fst (snd (snd (snd f)))) (snd (snd (snd (snd f))))),(ar now),(eF tun)])∧
 Pre ([(dZ (Wd.pc w) (Wd.B w) (Wd.U w) (Wd.D w) (Wd.S w) (Wd.C w) (Wd.F w) (Wd.W w)),(gf (fst f) (fst (snd f)) (fst (snd (snd f))) (fst (snd (snd (snd f)))) (snd (snd (snd (snd f)))) now tun)]++(ap y++ [(y (101:Nat)),(y (102:Nat)),(y (103:Nat)),(y (104:Nat)),(y (105:Nat)),(y (106:Nat)),(y (107:Nat)),(y (108:Nat)),(y (109:Nat)),(y (110:Nat)),(y (111:Nat)),(y (112:Nat)),(y (113:Nat)),(y (114:Nat))]))))∧
 (∀k:Int,(∀b:Int,(∀s:Int,(∀n:Bool,(WW ([(dZ (Wd.pc w) (Wd.B w) (Wd.U w) (Wd.D w) (Wd.S w) (Wd.C w) (Wd.F w) (Wd.W w)),(gf (fst f) (fst (snd f)) (fst (snd (snd f))) (fst (snd (snd (snd f)))) (snd (snd (snd (snd f)))) now tun)]++(ap y++ [(y (101:Nat)),(y (102:Nat)),(y (103:Nat)),(y (104:Nat)),(y (105:Nat)),(y (106:Nat)),(y (107:Nat)),(y (108:Nat)),(y (109:Nat)),(y (110:Nat)),(y (111:Nat)),(y (112:Nat)),(y (113:Nat)),(y (114:Nat))])) (k) (b) (s) (n)→(((@Eq (Nat) 0 0)∧
 ((@Eq (List TV) (AG (fst f) (fst (snd f)) (fst (snd (snd f))) (fst (snd (snd (snd f)))) (snd (snd (snd (snd f))))) (AG (fst f) (fst (snd f)) (fst (snd (snd f))) (fst (snd (snd (snd f)))) (snd (snd (snd (snd f))))))∧
 Pre ([(dZ (Wd.pc w) (Wd.B w) (Wd.U w) (Wd.D w) (Wd.S w) (Wd.C w) (Wd.F w) (Wd.W w)),(gf (fst f) (fst (snd f)) (fst (snd (snd f))) (fst (snd (snd (snd f)))) (snd (snd (snd (snd f)))) now tun)]++(ap y++ [(y (101:Nat)),(y (102:Nat)),(y (103:Nat)),(y (104:Nat)),(y (105:Nat)),(y (106:Nat)),(y (107:Nat)),(y (108:Nat)),(y (109:Nat)),(y (110:Nat)),(y (111:Nat)),(y (112:Nat)),(y (113:Nat)),(y (114:Nat))]))))∧
 (∀en:En,(∀k_25:Bool,(WF ([(dZ (Wd.pc w) (Wd.B w) (Wd.U w) (Wd.D w) (Wd.S w) (Wd.C w) (Wd.F w) (Wd.W w)),(gf (fst f) (fst (snd f)) (fst (snd (snd f))) (fst (snd (snd (snd f)))) (snd (snd (snd (snd f)))) now tun)]++(ap y++ [(y (101:Nat)),(y (102:Nat)),(y (103:Nat)),(y (104:Nat)),(y (105:Nat)),(y (106:Nat)),(y (107:Nat)),(y (108:Nat)),(y (109:Nat)),(y (110:Nat)),(y (111:Nat)),(y (112:Nat)),(y (113:Nat)),(y (114:Nat))])) (en) (k_25)→(bif k_25
 then (((@Eq (Nat) 0 0)∧
 Pre ([(dZ (Wd.pc w) (Wd.B w) (Wd.U w) (Wd.D w) (Wd.S w) (Wd.C w) (Wd.F w) (Wd.W w)),(gf (fst f) (fst (snd f)) (fst (snd (snd f))) (fst (snd (snd (snd f)))) (snd (snd (snd (snd f)))) now tun)]++(ap y++ [(y (101:Nat)),(y (102:Nat)),(y (103:Nat)),(y (104:Nat)),(y (105:Nat)),(y (106:Nat)),(y (107:Nat)),(y (108:Nat)),(y (109:Nat)),(y (110:Nat)),(y (111:Nat)),(y (112:Nat)),(y (113:Nat)),(y (114:Nat))])))∧
 (∀u:Bool,(WU ([(dZ (Wd.pc w) (Wd.B w) (Wd.U w) (Wd.D w) (Wd.S w) (Wd.C w) (Wd.F w) (Wd.W w)),(gf (fst f) (fst (snd f)) (fst (snd (snd f))) (fst (snd (snd (snd f)))) (snd (snd (snd (snd f)))) now tun)]++(ap y++ [(y (101:Nat)),(y (102:Nat)),(y (103:Nat)),(y (104:Nat)),(y (105:Nat)),(y (106:Nat)),(y (107:Nat)),(y (108:Nat)),(y (109:Nat)),(y (110:Nat)),(y (111:Nat)),(y (112:Nat)),(y (113:Nat)),(y (114:Nat))])) (fst (snd en)) (u)→(bif u
 then (bif bE eql (k6 k (1:Int))
 then (bif bE eql (k6 b (fst (snd en)))
 then (bif n
 then Q fH ⟨[(.cells [(.val (.int .i64 (Wd.pc w))),(.vec 3 (Wd.B w) .none),(.vec 1 (Wd.U w) .none),(.vec 1 (Wd.D w) .none),(.vec 3 (Wd.S w) .none),(.vec 1 (Wd.C w) .none),(.vec 5 (Wd.F w) .none),(.vec 1 (Wd.W w) .none)]),(.cells [(.val (.int .i64 (fst f))),(.val (.int .u32 (fst (snd f)))),(.val (.int .u32 (fst (snd (snd f))))),(.val (.int .i64 (fst (snd (snd (snd f)))))),(.val (.int .i64 (snd (snd (snd (snd f)))))),(.val (.int .i64 (now))),(.val (.bool (tun)))])]++(ap y++ [(y (101:Nat)),(y (102:Nat)),(y (103:Nat)),(y (104:Nat)),(y (105:Nat)),(y (106:Nat)),(y (107:Nat)),(y (108:Nat)),(y (109:Nat)),(y (110:Nat)),(y (111:Nat)),(y (112:Nat)),(y (113:Nat)),(y (114:Nat)),(.cells [(.ptr 6 0),(.ptr 8 0),(.ptr 11 0),(.ptr 12 0),(.ptr 13 0),(.ptr 14 0)]),(.cells [(.val (.int .i64 (k))),(.val (.int .i64 (b))),(.val (.int .i64 (s))),(.val (.bool (n)))]),(.cells [(.val (.int .i64 (fst (fst en)))),(.val (.int .u32 (fst (snd (fst en))))),(.val (.int .u32 (fst (snd (snd (fst en)))))),(.val (.int .i64 (fst (snd (snd (snd (fst en))))))),(.val (.int .i64 (snd (snd (snd (snd (fst en))))))),(.val (.int .i64 (fst (snd en)))),(.val (.int .i64 (snd (snd en))))])]),[]⟩
 else Q bX ⟨[(.cells [(.val (.int .i64 (Wd.pc w))),(.vec 3 (Wd.B w) .none),(.vec 1 (Wd.U w) .none),(.vec 1 (Wd.D w) .none),(.vec 3 (Wd.S w) .none),(.vec 1 (Wd.C w) .none),(.vec 5 (Wd.F w) .none),(.vec 1 (Wd.W w) .none)]),(.cells [(.val (.int .i64 (fst f))),(.val (.int .u32 (fst (snd f)))),(.val (.int .u32 (fst (snd (snd f))))),(.val (.int .i64 (fst (snd (snd (snd f)))))),(.val (.int .i64 (snd (snd (snd (snd f)))))),(.val (.int .i64 (now))),(.val (.bool (tun)))])]++(ap y++ [(y (101:Nat)),(y (102:Nat)),(y (103:Nat)),(y (104:Nat)),(y (105:Nat)),(y (106:Nat)),(y (107:Nat)),(y (108:Nat)),(y (109:Nat)),(y (110:Nat)),(y (111:Nat)),(y (112:Nat)),(y (113:Nat)),(y (114:Nat)),(.cells [(.ptr 6 0),(.ptr 8 0),(.ptr 11 0),(.ptr 12 0),(.ptr 13 0),(.ptr 14 0)]),(.cells [(.val (.int .i64 (k))),(.val (.int .i64 (b))),(.val (.int .i64 (s))),(.val (.bool (n)))]),(.cells [(.val (.int .i64 (fst (fst en)))),(.val (.int .u32 (fst (snd (fst en))))),(.val (.int .u32 (fst (snd (snd (fst en)))))),(.val (.int .i64 (fst (snd (snd (snd (fst en))))))),(.val (.int .i64 (snd (snd (snd (snd (fst en))))))),(.val (.int .i64 (fst (snd en)))),(.val (.int .i64 (snd (snd en))))])]),[]⟩)
 else Q bX ⟨[(.cells [(.val (.int .i64 (Wd.pc w))),(.vec 3 (Wd.B w) .none),(.vec 1 (Wd.U w) .none),(.vec 1 (Wd.D w) .none),(.vec 3 (Wd.S w) .none),(.vec 1 (Wd.C w) .none),(.vec 5 (Wd.F w) .none),(.vec 1 (Wd.W w) .none)]),(.cells [(.val (.int .i64 (fst f))),(.val (.int .u32 (fst (snd f)))),(.val (.int .u32 (fst (snd (snd f))))),(.val (.int .i64 (fst (snd (snd (snd f)))))),(.val (.int .i64 (snd (snd (snd (snd f)))))),(.val (.int .i64 (now))),(.val (.bool (tun)))])]++(ap y++ [(y (101:Nat)),(y (102:Nat)),(y (103:Nat)),(y (104:Nat)),(y (105:Nat)),(y (106:Nat)),(y (107:Nat)),(y (108:Nat)),(y (109:Nat)),(y (110:Nat)),(y (111:Nat)),(y (112:Nat)),(y (113:Nat)),(y (114:Nat)),(.cells [(.ptr 6 0),(.ptr 8 0),(.ptr 11 0),(.ptr 12 0),(.ptr 13 0),(.ptr 14 0)]),(.cells [(.val (.int .i64 (k))),(.val (.int .i64 (b))),(.val (.int .i64 (s))),(.val (.bool (n)))]),(.cells [(.val (.int .i64 (fst (fst en)))),(.val (.int .u32 (fst (snd (fst en))))),(.val (.int .u32 (fst (snd (snd (fst en)))))),(.val (.int .i64 (fst (snd (snd (snd (fst en))))))),(.val (.int .i64 (snd (snd (snd (snd (fst en))))))),(.val (.int .i64 (fst (snd en)))),(.val (.int .i64 (snd (snd en))))])]),[]⟩)
 else Q bX ⟨[(.cells [(.val (.int .i64 (Wd.pc w))),(.vec 3 (Wd.B w) .none),(.vec 1 (Wd.U w) .none),(.vec 1 (Wd.D w) .none),(.vec 3 (Wd.S w) .none),(.vec 1 (Wd.C w) .none),(.vec 5 (Wd.F w) .none),(.vec 1 (Wd.W w) .none)]),(.cells [(.val (.int .i64 (fst f))),(.val (.int .u32 (fst (snd f)))),(.val (.int .u32 (fst (snd (snd f))))),(.val (.int .i64 (fst (snd (snd (snd f)))))),(.val (.int .i64 (snd (snd (snd (snd f)))))),(.val (.int .i64 (now))),(.val (.bool (tun)))])]++(ap y++ [(y (101:Nat)),(y (102:Nat)),(y (103:Nat)),(y (104:Nat)),(y (105:Nat)),(y (106:Nat)),(y (107:Nat)),(y (108:Nat)),(y (109:Nat)),(y (110:Nat)),(y (111:Nat)),(y (112:Nat)),(y (113:Nat)),(y (114:Nat)),(.cells [(.ptr 6 0),(.ptr 8 0),(.ptr 11 0),(.ptr 12 0),(.ptr 13 0),(.ptr 14 0)]),(.cells [(.val (.int .i64 (k))),(.val (.int .i64 (b))),(.val (.int .i64 (s))),(.val (.bool (n)))]),(.cells [(.val (.int .i64 (fst (fst en)))),(.val (.int .u32 (fst (snd (fst en))))),(.val (.int .u32 (fst (snd (snd (fst en)))))),(.val (.int .i64 (fst (snd (snd (snd (fst en))))))),(.val (.int .i64 (snd (snd (snd (snd (fst en))))))),(.val (.int .i64 (fst (snd en)))),(.val (.int .i64 (snd (snd en))))])]),[]⟩)
 else (((@Eq (Nat) 0 0)∧
 ((@Eq (List TV) jU jU)∧
 Pre ([(dZ (Wd.pc w) (Wd.B w) (Wd.U w) (Wd.D w) (Wd.S w) (Wd.C w) (Wd.F w) (Wd.W w)),(gf (fst f) (fst (snd f)) (fst (snd (snd f))) (fst (snd (snd (snd f)))) (snd (snd (snd (snd f)))) now tun)]++(ap y++ [(y (101:Nat)),(y (102:Nat)),(y (103:Nat)),(y (104:Nat)),(y (105:Nat)),(y (106:Nat)),(y (107:Nat)),(y (108:Nat)),(y (109:Nat)),(y (110:Nat)),(y (111:Nat)),(y (112:Nat)),(y (113:Nat)),(y (114:Nat))]))))∧
 (∀u_29:Bool,(WQ ([(dZ (Wd.pc w) (Wd.B w) (Wd.U w) (Wd.D w) (Wd.S w) (Wd.C w) (Wd.F w) (Wd.W w)),(gf (fst f) (fst (snd f)) (fst (snd (snd f))) (fst (snd (snd (snd f)))) (snd (snd (snd (snd f)))) now tun)]++(ap y++ [(y (101:Nat)),(y (102:Nat)),(y (103:Nat)),(y (104:Nat)),(y (105:Nat)),(y (106:Nat)),(y (107:Nat)),(y (108:Nat)),(y (109:Nat)),(y (110:Nat)),(y (111:Nat)),(y (112:Nat)),(y (113:Nat)),(y (114:Nat))])) (u_29)→(bif u_29
 then ((@Eq (List TV) (o6 (fst f) (fst (snd f)) (fst (snd (snd f))) (fst (snd (snd (snd f)))) (snd (snd (snd (snd f))))) (o6 (fst f) (fst (snd f)) (fst (snd (snd f))) (fst (snd (snd (snd f)))) (snd (snd (snd (snd f))))))∧
 (((@Eq (Nat) 0 0)∧
 Pre ([(dZ (Wd.pc w) (Wd.B w) (Wd.U w) (Wd.D w) (Wd.S w) (Wd.C w) (Wd.F w) (Wd.W w)),(gf (fst f) (fst (snd f)) (fst (snd (snd f))) (fst (snd (snd (snd f)))) (snd (snd (snd (snd f)))) now tun)]++(ap y++ [(y (101:Nat)),(y (102:Nat)),(y (103:Nat)),(y (104:Nat)),(y (105:Nat)),(y (106:Nat)),(y (107:Nat)),(y (108:Nat)),(y (109:Nat)),(y (110:Nat)),(y (111:Nat)),(y (112:Nat)),(y (113:Nat)),(y (114:Nat))])))∧
 (∀v:Bk,(∀u_32:Bool,(WG ([(dZ (Wd.pc w) (Wd.B w) (Wd.U w) (Wd.D w) (Wd.S w) (Wd.C w) (Wd.F w) (Wd.W w)),(gf (fst f) (fst (snd f)) (fst (snd (snd f))) (fst (snd (snd (snd f)))) (snd (snd (snd (snd f)))) now tun)]++(ap y++ [(y (101:Nat)),(y (102:Nat)),(y (103:Nat)),(y (104:Nat)),(y (105:Nat)),(y (106:Nat)),(y (107:Nat)),(y (108:Nat)),(y (109:Nat)),(y (110:Nat)),(y (111:Nat)),(y (112:Nat)),(y (113:Nat)),(y (114:Nat))])) (b) (v) (u_32)→(bif bE neq (k6 k (1:Int))
 then Q bX ⟨[(.cells [(.val (.int .i64 (Wd.pc w))),(.vec 3 (Wd.B w) .none),(.vec 1 (Wd.U w) .none),(.vec 1 (Wd.D w) .none),(.vec 3 (Wd.S w) .none),(.vec 1 (Wd.C w) .none),(.vec 5 (Wd.F w) .none),(.vec 1 (Wd.W w) .none)]),(.cells [(.val (.int .i64 (fst f))),(.val (.int .u32 (fst (snd f)))),(.val (.int .u32 (fst (snd (snd f))))),(.val (.int .i64 (fst (snd (snd (snd f)))))),(.val (.int .i64 (snd (snd (snd (snd f)))))),(.val (.int .i64 (now))),(.val (.bool (tun)))])]++(ap y++ [(y (101:Nat)),(y (102:Nat)),(y (103:Nat)),(y (104:Nat)),(y (105:Nat)),(y (106:Nat)),(y (107:Nat)),(y (108:Nat)),(y (109:Nat)),(y (110:Nat)),(y (111:Nat)),(y (112:Nat)),(y (113:Nat)),(y (114:Nat)),(.cells [(.ptr 6 0),(.ptr 8 0),(.ptr 11 0),(.ptr 12 0),(.ptr 13 0),(.ptr 14 0)]),(.cells [(.val (.int .i64 (k))),(.val (.int .i64 (b))),(.val (.int .i64 (s))),(.val (.bool (n)))]),(.cells [(.val (.int .i64 (fst (fst en)))),(.val (.int .u32 (fst (snd (fst en))))),(.val (.int .u32 (fst (snd (snd (fst en)))))),(.val (.int .i64 (fst (snd (snd (snd (fst en))))))),(.val (.int .i64 (snd (snd (snd (snd (fst en))))))),(.val (.int .i64 (fst (snd en)))),(.val (.int .i64 (snd (snd en))))]),(.cells [(.val (.int .i64 (fst v))),(.val (.int .u32 (fst (snd v)))),(.val (.int .i64 (snd (snd v))))])]),[]⟩
 else (bif n
 then Q bX ⟨[(.cells [(.val (.int .i64 (Wd.pc w))),(.vec 3 (Wd.B w) .none),(.vec 1 (Wd.U w) .none),(.vec 1 (Wd.D w) .none),(.vec 3 (Wd.S w) .none),(.vec 1 (Wd.C w) .none),(.vec 5 (Wd.F w) .none),(.vec 1 (Wd.W w) .none)]),(.cells [(.val (.int .i64 (fst f))),(.val (.int .u32 (fst (snd f)))),(.val (.int .u32 (fst (snd (snd f))))),(.val (.int .i64 (fst (snd (snd (snd f)))))),(.val (.int .i64 (snd (snd (snd (snd f)))))),(.val (.int .i64 (now))),(.val (.bool (tun)))])]++(ap y++ [(y (101:Nat)),(y (102:Nat)),(y (103:Nat)),(y (104:Nat)),(y (105:Nat)),(y (106:Nat)),(y (107:Nat)),(y (108:Nat)),(y (109:Nat)),(y (110:Nat)),(y (111:Nat)),(y (112:Nat)),(y (113:Nat)),(y (114:Nat)),(.cells [(.ptr 6 0),(.ptr 8 0),(.ptr 11 0),(.ptr 12 0),(.ptr 13 0),(.ptr 14 0)]),(.cells [(.val (.int .i64 (k))),(.val (.int .i64 (b))),(.val (.int .i64 (s))),(.val (.bool (n)))]),(.cells [(.val (.int .i64 (fst (fst en)))),(.val (.int .u32 (fst (snd (fst en))))),(.val (.int .u32 (fst (snd (snd (fst en)))))),(.val (.int .i64 (fst (snd (snd (snd (fst en))))))),(.val (.int .i64 (snd (snd (snd (snd (fst en))))))),(.val (.int .i64 (fst (snd en)))),(.val (.int .i64 (snd (snd en))))]),(.cells [(.val (.int .i64 (fst v))),(.val (.int .u32 (fst (snd v)))),(.val (.int .i64 (snd (snd v))))])]),[]⟩
 else (bif !u_32
 then Q bX ⟨[(.cells [(.val (.int .i64 (Wd.pc w))),(.vec 3 (Wd.B w) .none),(.vec 1 (Wd.U w) .none),(.vec 1 (Wd.D w) .none),(.vec 3 (Wd.S w) .none),(.vec 1 (Wd.C w) .none),(.vec 5 (Wd.F w) .none),(.vec 1 (Wd.W w) .none)]),(.cells [(.val (.int .i64 (fst f))),(.val (.int .u32 (fst (snd f)))),(.val (.int .u32 (fst (snd (snd f))))),(.val (.int .i64 (fst (snd (snd (snd f)))))),(.val (.int .i64 (snd (snd (snd (snd f)))))),(.val (.int .i64 (now))),(.val (.bool (tun)))])]++(ap y++ [(y (101:Nat)),(y (102:Nat)),(y (103:Nat)),(y (104:Nat)),(y (105:Nat)),(y (106:Nat)),(y (107:Nat)),(y (108:Nat)),(y (109:Nat)),(y (110:Nat)),(y (111:Nat)),(y (112:Nat)),(y (113:Nat)),(y (114:Nat)),(.cells [(.ptr 6 0),(.ptr 8 0),(.ptr 11 0),(.ptr 12 0),(.ptr 13 0),(.ptr 14 0)]),(.cells [(.val (.int .i64 (k))),(.val (.int .i64 (b))),(.val (.int .i64 (s))),(.val (.bool (n)))]),(.cells [(.val (.int .i64 (fst (fst en)))),(.val (.int .u32 (fst (snd (fst en))))),(.val (.int .u32 (fst (snd (snd (fst en)))))),(.val (.int .i64 (fst (snd (snd (snd (fst en))))))),(.val (.int .i64 (snd (snd (snd (snd (fst en))))))),(.val (.int .i64 (fst (snd en)))),(.val (.int .i64 (snd (snd en))))]),(.cells [(.val (.int .i64 (fst v))),(.val (.int .u32 (fst (snd v)))),(.val (.int .i64 (snd (snd v))))])]),[]⟩
 else (((@Eq (Nat) 0 0)∧
 ((@Eq (List TV) jU jU)∧
 Pre ([(dZ (Wd.pc w) (Wd.B w) (Wd.U w) (Wd.D w) (Wd.S w) (Wd.C w) (Wd.F w) (Wd.W w)),(gf (fst f) (fst (snd f)) (fst (snd (snd f))) (fst (snd (snd (snd f)))) (snd (snd (snd (snd f)))) now tun)]++(ap y++ [(y (101:Nat)),(y (102:Nat)),(y (103:Nat)),(y (104:Nat)),(y (105:Nat)),(y (106:Nat)),(y (107:Nat)),(y (108:Nat)),(y (109:Nat)),(y (110:Nat)),(y (111:Nat)),(y (112:Nat)),(y (113:Nat)),(y (114:Nat))]))))∧
 (∀L:Bs,(WL ([(dZ (Wd.pc w) (Wd.B w) (Wd.U w) (Wd.D w) (Wd.S w) (Wd.C w) (Wd.F w) (Wd.W w)),(gf (fst f) (fst (snd f)) (fst (snd (snd f))) (fst (snd (snd (snd f)))) (snd (snd (snd (snd f)))) now tun)]++(ap y++ [(y (101:Nat)),(y (102:Nat)),(y (103:Nat)),(y (104:Nat)),(y (105:Nat)),(y (106:Nat)),(y (107:Nat)),(y (108:Nat)),(y (109:Nat)),(y (110:Nat)),(y (111:Nat)),(y (112:Nat)),(y (113:Nat)),(y (114:Nat))])) (L)→((av prog oe (0:Nat)=av prog oe (0:Nat))∧
 (((@Eq (Option Nat) .none .none)∧
 ((@Eq (Nat) 0 0)∧
 ((@Eq (List Nat) [] [])∧
 ((@Eq (Bool) true true)∧
 ((@Eq (Int) (key) (key))∧
 ((@Eq (Nat) 120 120)∧
 ((@Eq (Bool) false false)∧
 ((@Eq (Int) ((↑(length L):Int)) ((↑(length L):Int)))∧
 ((@Eq (Int) 0 0)∧
 Lp (L) ⟨[(.cells [(.val (.int .i64 (Wd.pc w))),(.vec 3 (Wd.B w) .none),(.vec 1 (Wd.U w) .none),(.vec 1 (Wd.D w) .none),(.vec 3 (Wd.S w) .none),(.vec 1 (Wd.C w) .none),(.vec 5 (Wd.F w) .none),(.vec 1 (Wd.W w) .none)]),(.cells [(.val (.int .i64 (fst f))),(.val (.int .u32 (fst (snd f)))),(.val (.int .u32 (fst (snd (snd f))))),(.val (.int .i64 (fst (snd (snd (snd f)))))),(.val (.int .i64 (snd (snd (snd (snd f)))))),(.val (.int .i64 (now))),(.val (.bool (tun)))])]++(ap y++ [(y (101:Nat)),(y (102:Nat)),(y (103:Nat)),(y (104:Nat)),(y (105:Nat)),(y (106:Nat)),(y (107:Nat)),(y (108:Nat)),(y (109:Nat)),(y (110:Nat)),(y (111:Nat)),(y (112:Nat)),(y (113:Nat)),(y (114:Nat)),(.cells [(.ptr 6 0),(.ptr 8 0),(.ptr 11 0),(.ptr 12 0),(.ptr 13 0),(.ptr 14 0)]),(.cells [(.val (.int .i64 (k))),(.val (.int .i64 (b))),(.val (.int .i64 (s))),(.val (.bool (n)))]),(.cells [(.val (.int .i64 (fst (fst en)))),(.val (.int .u32 (fst (snd (fst en))))),(.val (.int .u32 (fst (snd (snd (fst en)))))),(.val (.int .i64 (fst (snd (snd (snd (fst en))))))),(.val (.int .i64 (snd (snd (snd (snd (fst en))))))),(.val (.int .i64 (fst (snd en)))),(.val (.int .i64 (snd (snd en))))]),(.cells [(.val (.int .i64 (fst v))),(.val (.int .u32 (fst (snd v)))),(.val (.int .i64 (snd (snd v))))])]),[]⟩)))))))))∧
 Q fH ⟨[(.cells [(.val (.int .i64 (Wd.pc w))),(.vec 3 (Wd.B w) .none),(.vec 1 (Wd.U w) .none),(.vec 1 (Wd.D w) .none),(.vec 3 (Wd.S w) .none),(.vec 1 (Wd.C w) .none),(.vec 5 (Wd.F w) .none),(.vec 1 (Wd.W w) .none)]),(.cells [(.val (.int .i64 (fst f))),(.val (.int .u32 (fst (snd f)))),(.val (.int .u32 (fst (snd (snd f))))),(.val (.int .i64 (fst (snd (snd (snd f)))))),(.val (.int .i64 (snd (snd (snd (snd f)))))),(.val (.int .i64 (now))),(.val (.bool (tun)))])]++(ap y++ [(y (101:Nat)),(y (102:Nat)),(y (103:Nat)),(y (104:Nat)),(y (105:Nat)),(y (106:Nat)),(y (107:Nat)),(y (108:Nat)),(y (109:Nat)),(y (110:Nat)),(y (111:Nat)),(y (112:Nat)),(y (113:Nat)),(y (114:Nat)),(.cells [(.ptr 6 0),(.ptr 8 0),(.ptr 11 0),(.ptr 12 0),(.ptr 13 0),(.ptr 14 0)]),(.cells [(.val (.int .i64 (k))),(.val (.int .i64 (b))),(.val (.int .i64 (s))),(.val (.bool (n)))]),(.cells [(.val (.int .i64 (fst (fst en)))),(.val (.int .u32 (fst (snd (fst en))))),(.val (.int .u32 (fst (snd (snd (fst en)))))),(.val (.int .i64 (fst (snd (snd (snd (fst en))))))),(.val (.int .i64 (snd (snd (snd (snd (fst en))))))),(.val (.int .i64 (fst (snd en)))),(.val (.int .i64 (snd (snd en))))]),(.cells [(.val (.int .i64 (fst v))),(.val (.int .u32 (fst (snd v)))),(.val (.int .i64 (snd (snd v))))])]),[]⟩)))))))))))))
 else (((@Eq (Nat) 0 0)∧
 ((@Eq (List TV) (tI now) (tI now))∧
 Pre ([(dZ (Wd.pc w) (Wd.B w) (Wd.U w) (Wd.D w) (Wd.S w) (Wd.C w) (Wd.F w) (Wd.W w)),(gf (fst f) (fst (snd f)) (fst (snd (snd f))) (fst (snd (snd (snd f)))) (snd (snd (snd (snd f)))) now tun)]++(ap y++ [(y (101:Nat)),(y (102:Nat)),(y (103:Nat)),(y (104:Nat)),(y (105:Nat)),(y (106:Nat)),(y (107:Nat)),(y (108:Nat)),(y (109:Nat)),(y (110:Nat)),(y (111:Nat)),(y (112:Nat)),(y (113:Nat)),(y (114:Nat))]))))∧
 (∀v:Bk,(∀u_32:Bool,(WB ([(dZ (Wd.pc w) (Wd.B w) (Wd.U w) (Wd.D w) (Wd.S w) (Wd.C w) (Wd.F w) (Wd.W w)),(gf (fst f) (fst (snd f)) (fst (snd (snd f))) (fst (snd (snd (snd f)))) (snd (snd (snd (snd f)))) now tun)]++(ap y++ [(y (101:Nat)),(y (102:Nat)),(y (103:Nat)),(y (104:Nat)),(y (105:Nat)),(y (106:Nat)),(y (107:Nat)),(y (108:Nat)),(y (109:Nat)),(y (110:Nat)),(y (111:Nat)),(y (112:Nat)),(y (113:Nat)),(y (114:Nat))])) (v) (u_32)→(bif u_32
 then (bif !tun
 then (bif bE eql (k6 k (2:Int))
 then (bif bE eql (k6 s (fst v))
 then (bif bE eql (k6 b (0:Int))
 then Q fH ⟨[(.cells [(.val (.int .i64 (Wd.pc w))),(.vec 3 (Wd.B w) .none),(.vec 1 (Wd.U w) .none),(.vec 1 (Wd.D w) .none),(.vec 3 (Wd.S w) .none),(.vec 1 (Wd.C w) .none),(.vec 5 (Wd.F w) .none),(.vec 1 (Wd.W w) .none)]),(.cells [(.val (.int .i64 (fst f))),(.val (.int .u32 (fst (snd f)))),(.val (.int .u32 (fst (snd (snd f))))),(.val (.int .i64 (fst (snd (snd (snd f)))))),(.val (.int .i64 (snd (snd (snd (snd f)))))),(.val (.int .i64 (now))),(.val (.bool (tun)))])]++(ap y++ [(y (101:Nat)),(y (102:Nat)),(y (103:Nat)),(y (104:Nat)),(y (105:Nat)),(y (106:Nat)),(y (107:Nat)),(y (108:Nat)),(y (109:Nat)),(y (110:Nat)),(y (111:Nat)),(y (112:Nat)),(y (113:Nat)),(y (114:Nat)),(.cells [(.ptr 6 0),(.ptr 8 0),(.ptr 11 0),(.ptr 12 0),(.ptr 13 0),(.ptr 14 0)]),(.cells [(.val (.int .i64 (k))),(.val (.int .i64 (b))),(.val (.int .i64 (s))),(.val (.bool (n)))]),(.cells [(.val (.int .i64 (fst (fst en)))),(.val (.int .u32 (fst (snd (fst en))))),(.val (.int .u32 (fst (snd (snd (fst en)))))),(.val (.int .i64 (fst (snd (snd (snd (fst en))))))),(.val (.int .i64 (snd (snd (snd (snd (fst en))))))),(.val (.int .i64 (fst (snd en)))),(.val (.int .i64 (snd (snd en))))]),(.cells [(.val (.int .i64 (fst v))),(.val (.int .u32 (fst (snd v)))),(.val (.int .i64 (snd (snd v))))])]),[]⟩
 else Q bX ⟨[(.cells [(.val (.int .i64 (Wd.pc w))),(.vec 3 (Wd.B w) .none),(.vec 1 (Wd.U w) .none),(.vec 1 (Wd.D w) .none),(.vec 3 (Wd.S w) .none),(.vec 1 (Wd.C w) .none),(.vec 5 (Wd.F w) .none),(.vec 1 (Wd.W w) .none)]),(.cells [(.val (.int .i64 (fst f))),(.val (.int .u32 (fst (snd f)))),(.val (.int .u32 (fst (snd (snd f))))),(.val (.int .i64 (fst (snd (snd (snd f)))))),(.val (.int .i64 (snd (snd (snd (snd f)))))),(.val (.int .i64 (now))),(.val (.bool (tun)))])]++(ap y++ [(y (101:Nat)),(y (102:Nat)),(y (103:Nat)),(y (104:Nat)),(y (105:Nat)),(y (106:Nat)),(y (107:Nat)),(y (108:Nat)),(y (109:Nat)),(y (110:Nat)),(y (111:Nat)),(y (112:Nat)),(y (113:Nat)),(y (114:Nat)),(.cells [(.ptr 6 0),(.ptr 8 0),(.ptr 11 0),(.ptr 12 0),(.ptr 13 0),(.ptr 14 0)]),(.cells [(.val (.int .i64 (k))),(.val (.int .i64 (b))),(.val (.int .i64 (s))),(.val (.bool (n)))]),(.cells [(.val (.int .i64 (fst (fst en)))),(.val (.int .u32 (fst (snd (fst en))))),(.val (.int .u32 (fst (snd (snd (fst en)))))),(.val (.int .i64 (fst (snd (snd (snd (fst en))))))),(.val (.int .i64 (snd (snd (snd (snd (fst en))))))),(.val (.int .i64 (fst (snd en)))),(.val (.int .i64 (snd (snd en))))]),(.cells [(.val (.int .i64 (fst v))),(.val (.int .u32 (fst (snd v)))),(.val (.int .i64 (snd (snd v))))])]),[]⟩)
 else Q bX ⟨[(.cells [(.val (.int .i64 (Wd.pc w))),(.vec 3 (Wd.B w) .none),(.vec 1 (Wd.U w) .none),(.vec 1 (Wd.D w) .none),(.vec 3 (Wd.S w) .none),(.vec 1 (Wd.C w) .none),(.vec 5 (Wd.F w) .none),(.vec 1 (Wd.W w) .none)]),(.cells [(.val (.int .i64 (fst f))),(.val (.int .u32 (fst (snd f)))),(.val (.int .u32 (fst (snd (snd f))))),(.val (.int .i64 (fst (snd (snd (snd f)))))),(.val (.int .i64 (snd (snd (snd (snd f)))))),(.val (.int .i64 (now))),(.val (.bool (tun)))])]++(ap y++ [(y (101:Nat)),(y (102:Nat)),(y (103:Nat)),(y (104:Nat)),(y (105:Nat)),(y (106:Nat)),(y (107:Nat)),(y (108:Nat)),(y (109:Nat)),(y (110:Nat)),(y (111:Nat)),(y (112:Nat)),(y (113:Nat)),(y (114:Nat)),(.cells [(.ptr 6 0),(.ptr 8 0),(.ptr 11 0),(.ptr 12 0),(.ptr 13 0),(.ptr 14 0)]),(.cells [(.val (.int .i64 (k))),(.val (.int .i64 (b))),(.val (.int .i64 (s))),(.val (.bool (n)))]),(.cells [(.val (.int .i64 (fst (fst en)))),(.val (.int .u32 (fst (snd (fst en))))),(.val (.int .u32 (fst (snd (snd (fst en)))))),(.val (.int .i64 (fst (snd (snd (snd (fst en))))))),(.val (.int .i64 (snd (snd (snd (snd (fst en))))))),(.val (.int .i64 (fst (snd en)))),(.val (.int .i64 (snd (snd en))))]),(.cells [(.val (.int .i64 (fst v))),(.val (.int .u32 (fst (snd v)))),(.val (.int .i64 (snd (snd v))))])]),[]⟩)
 else Q bX ⟨[(.cells [(.val (.int .i64 (Wd.pc w))),(.vec 3 (Wd.B w) .none),(.vec 1 (Wd.U w) .none),(.vec 1 (Wd.D w) .none),(.vec 3 (Wd.S w) .none),(.vec 1 (Wd.C w) .none),(.vec 5 (Wd.F w) .none),(.vec 1 (Wd.W w) .none)]),(.cells [(.val (.int .i64 (fst f))),(.val (.int .u32 (fst (snd f)))),(.val (.int .u32 (fst (snd (snd f))))),(.val (.int .i64 (fst (snd (snd (snd f)))))),(.val (.int .i64 (snd (snd (snd (snd f)))))),(.val (.int .i64 (now))),(.val (.bool (tun)))])]++(ap y++ [(y (101:Nat)),(y (102:Nat)),(y (103:Nat)),(y (104:Nat)),(y (105:Nat)),(y (106:Nat)),(y (107:Nat)),(y (108:Nat)),(y (109:Nat)),(y (110:Nat)),(y (111:Nat)),(y (112:Nat)),(y (113:Nat)),(y (114:Nat)),(.cells [(.ptr 6 0),(.ptr 8 0),(.ptr 11 0),(.ptr 12 0),(.ptr 13 0),(.ptr 14 0)]),(.cells [(.val (.int .i64 (k))),(.val (.int .i64 (b))),(.val (.int .i64 (s))),(.val (.bool (n)))]),(.cells [(.val (.int .i64 (fst (fst en)))),(.val (.int .u32 (fst (snd (fst en))))),(.val (.int .u32 (fst (snd (snd (fst en)))))),(.val (.int .i64 (fst (snd (snd (snd (fst en))))))),(.val (.int .i64 (snd (snd (snd (snd (fst en))))))),(.val (.int .i64 (fst (snd en)))),(.val (.int .i64 (snd (snd en))))]),(.cells [(.val (.int .i64 (fst v))),(.val (.int .u32 (fst (snd v)))),(.val (.int .i64 (snd (snd v))))])]),[]⟩)
 else (bif bE eql
  (aj ((λvs=>Value.agg (toArray vs)) ((λx=>Value.int i64 k::x) ((λx=>Value.int i64 b::x) ((λx=>Value.int i64 s::x) ((λx=>Value.bool n::x) [])))))
   ((λvs=>Value.agg (toArray vs)) ((λx=>Value.int i64 (0:Int)::x) ((λx=>Value.int i64 (0:Int)::x) ((λx=>Value.int i64 (0:Int)::x) ((λx=>Value.bool false::x) []))))))
 then Q fH ⟨[(.cells [(.val (.int .i64 (Wd.pc w))),(.vec 3 (Wd.B w) .none),(.vec 1 (Wd.U w) .none),(.vec 1 (Wd.D w) .none),(.vec 3 (Wd.S w) .none),(.vec 1 (Wd.C w) .none),(.vec 5 (Wd.F w) .none),(.vec 1 (Wd.W w) .none)]),(.cells [(.val (.int .i64 (fst f))),(.val (.int .u32 (fst (snd f)))),(.val (.int .u32 (fst (snd (snd f))))),(.val (.int .i64 (fst (snd (snd (snd f)))))),(.val (.int .i64 (snd (snd (snd (snd f)))))),(.val (.int .i64 (now))),(.val (.bool (tun)))])]++(ap y++ [(y (101:Nat)),(y (102:Nat)),(y (103:Nat)),(y (104:Nat)),(y (105:Nat)),(y (106:Nat)),(y (107:Nat)),(y (108:Nat)),(y (109:Nat)),(y (110:Nat)),(y (111:Nat)),(y (112:Nat)),(y (113:Nat)),(y (114:Nat)),(.cells [(.ptr 6 0),(.ptr 8 0),(.ptr 11 0),(.ptr 12 0),(.ptr 13 0),(.ptr 14 0)]),(.cells [(.val (.int .i64 (k))),(.val (.int .i64 (b))),(.val (.int .i64 (s))),(.val (.bool (n)))]),(.cells [(.val (.int .i64 (fst (fst en)))),(.val (.int .u32 (fst (snd (fst en))))),(.val (.int .u32 (fst (snd (snd (fst en)))))),(.val (.int .i64 (fst (snd (snd (snd (fst en))))))),(.val (.int .i64 (snd (snd (snd (snd (fst en))))))),(.val (.int .i64 (fst (snd en)))),(.val (.int .i64 (snd (snd en))))]),(.cells [(.val (.int .i64 (fst v))),(.val (.int .u32 (fst (snd v)))),(.val (.int .i64 (snd (snd v))))])]),[]⟩
 else Q bX ⟨[(.cells [(.val (.int .i64 (Wd.pc w))),(.vec 3 (Wd.B w) .none),(.vec 1 (Wd.U w) .none),(.vec 1 (Wd.D w) .none),(.vec 3 (Wd.S w) .none),(.vec 1 (Wd.C w) .none),(.vec 5 (Wd.F w) .none),(.vec 1 (Wd.W w) .none)]),(.cells [(.val (.int .i64 (fst f))),(.val (.int .u32 (fst (snd f)))),(.val (.int .u32 (fst (snd (snd f))))),(.val (.int .i64 (fst (snd (snd (snd f)))))),(.val (.int .i64 (snd (snd (snd (snd f)))))),(.val (.int .i64 (now))),(.val (.bool (tun)))])]++(ap y++ [(y (101:Nat)),(y (102:Nat)),(y (103:Nat)),(y (104:Nat)),(y (105:Nat)),(y (106:Nat)),(y (107:Nat)),(y (108:Nat)),(y (109:Nat)),(y (110:Nat)),(y (111:Nat)),(y (112:Nat)),(y (113:Nat)),(y (114:Nat)),(.cells [(.ptr 6 0),(.ptr 8 0),(.ptr 11 0),(.ptr 12 0),(.ptr 13 0),(.ptr 14 0)]),(.cells [(.val (.int .i64 (k))),(.val (.int .i64 (b))),(.val (.int .i64 (s))),(.val (.bool (n)))]),(.cells [(.val (.int .i64 (fst (fst en)))),(.val (.int .u32 (fst (snd (fst en))))),(.val (.int .u32 (fst (snd (snd (fst en)))))),(.val (.int .i64 (fst (snd (snd (snd (fst en))))))),(.val (.int .i64 (snd (snd (snd (snd (fst en))))))),(.val (.int .i64 (fst (snd en)))),(.val (.int .i64 (snd (snd en))))]),(.cells [(.val (.int .i64 (fst v))),(.val (.int .u32 (fst (snd v)))),(.val (.int .i64 (snd (snd v))))])]),[]⟩))
 else (bif bE eql
  (aj ((λvs=>Value.agg (toArray vs)) ((λx=>Value.int i64 k::x) ((λx=>Value.int i64 b::x) ((λx=>Value.int i64 s::x) ((λx=>Value.bool n::x) [])))))
   ((λvs=>Value.agg (toArray vs)) ((λx=>Value.int i64 (0:Int)::x) ((λx=>Value.int i64 (0:Int)::x) ((λx=>Value.int i64 (0:Int)::x) ((λx=>Value.bool false::x) []))))))
 then Q fH ⟨[(.cells [(.val (.int .i64 (Wd.pc w))),(.vec 3 (Wd.B w) .none),(.vec 1 (Wd.U w) .none),(.vec 1 (Wd.D w) .none),(.vec 3 (Wd.S w) .none),(.vec 1 (Wd.C w) .none),(.vec 5 (Wd.F w) .none),(.vec 1 (Wd.W w) .none)]),(.cells [(.val (.int .i64 (fst f))),(.val (.int .u32 (fst (snd f)))),(.val (.int .u32 (fst (snd (snd f))))),(.val (.int .i64 (fst (snd (snd (snd f)))))),(.val (.int .i64 (snd (snd (snd (snd f)))))),(.val (.int .i64 (now))),(.val (.bool (tun)))])]++(ap y++ [(y (101:Nat)),(y (102:Nat)),(y (103:Nat)),(y (104:Nat)),(y (105:Nat)),(y (106:Nat)),(y (107:Nat)),(y (108:Nat)),(y (109:Nat)),(y (110:Nat)),(y (111:Nat)),(y (112:Nat)),(y (113:Nat)),(y (114:Nat)),(.cells [(.ptr 6 0),(.ptr 8 0),(.ptr 11 0),(.ptr 12 0),(.ptr 13 0),(.ptr 14 0)]),(.cells [(.val (.int .i64 (k))),(.val (.int .i64 (b))),(.val (.int .i64 (s))),(.val (.bool (n)))]),(.cells [(.val (.int .i64 (fst (fst en)))),(.val (.int .u32 (fst (snd (fst en))))),(.val (.int .u32 (fst (snd (snd (fst en)))))),(.val (.int .i64 (fst (snd (snd (snd (fst en))))))),(.val (.int .i64 (snd (snd (snd (snd (fst en))))))),(.val (.int .i64 (fst (snd en)))),(.val (.int .i64 (snd (snd en))))]),(.cells [(.val (.int .i64 (fst v))),(.val (.int .u32 (fst (snd v)))),(.val (.int .i64 (snd (snd v))))])]),[]⟩
 else Q bX ⟨[(.cells [(.val (.int .i64 (Wd.pc w))),(.vec 3 (Wd.B w) .none),(.vec 1 (Wd.U w) .none),(.vec 1 (Wd.D w) .none),(.vec 3 (Wd.S w) .none),(.vec 1 (Wd.C w) .none),(.vec 5 (Wd.F w) .none),(.vec 1 (Wd.W w) .none)]),(.cells [(.val (.int .i64 (fst f))),(.val (.int .u32 (fst (snd f)))),(.val (.int .u32 (fst (snd (snd f))))),(.val (.int .i64 (fst (snd (snd (snd f)))))),(.val (.int .i64 (snd (snd (snd (snd f)))))),(.val (.int .i64 (now))),(.val (.bool (tun)))])]++(ap y++ [(y (101:Nat)),(y (102:Nat)),(y (103:Nat)),(y (104:Nat)),(y (105:Nat)),(y (106:Nat)),(y (107:Nat)),(y (108:Nat)),(y (109:Nat)),(y (110:Nat)),(y (111:Nat)),(y (112:Nat)),(y (113:Nat)),(y (114:Nat)),(.cells [(.ptr 6 0),(.ptr 8 0),(.ptr 11 0),(.ptr 12 0),(.ptr 13 0),(.ptr 14 0)]),(.cells [(.val (.int .i64 (k))),(.val (.int .i64 (b))),(.val (.int .i64 (s))),(.val (.bool (n)))]),(.cells [(.val (.int .i64 (fst (fst en)))),(.val (.int .u32 (fst (snd (fst en))))),(.val (.int .u32 (fst (snd (snd (fst en)))))),(.val (.int .i64 (fst (snd (snd (snd (fst en))))))),(.val (.int .i64 (snd (snd (snd (snd (fst en))))))),(.val (.int .i64 (fst (snd en)))),(.val (.int .i64 (snd (snd en))))]),(.cells [(.val (.int .i64 (fst v))),(.val (.int .u32 (fst (snd v)))),(.val (.int .i64 (snd (snd v))))])]),[]⟩))))))))))))))
 else (((@Eq (Nat) 0 0)∧
 ((@Eq (List TV) jU jU)∧
 Pre ([(dZ (Wd.pc w) (Wd.B w) (Wd.U w) (Wd.D w) (Wd.S w) (Wd.C w) (Wd.F w) (Wd.W w)),(gf (fst f) (fst (snd f)) (fst (snd (snd f))) (fst (snd (snd (snd f)))) (snd (snd (snd (snd f)))) now tun)]++(ap y++ [(y (101:Nat)),(y (102:Nat)),(y (103:Nat)),(y (104:Nat)),(y (105:Nat)),(y (106:Nat)),(y (107:Nat)),(y (108:Nat)),(y (109:Nat)),(y (110:Nat)),(y (111:Nat)),(y (112:Nat)),(y (113:Nat)),(y (114:Nat))]))))∧
 (∀u:Bool,(WQ ([(dZ (Wd.pc w) (Wd.B w) (Wd.U w) (Wd.D w) (Wd.S w) (Wd.C w) (Wd.F w) (Wd.W w)),(gf (fst f) (fst (snd f)) (fst (snd (snd f))) (fst (snd (snd (snd f)))) (snd (snd (snd (snd f)))) now tun)]++(ap y++ [(y (101:Nat)),(y (102:Nat)),(y (103:Nat)),(y (104:Nat)),(y (105:Nat)),(y (106:Nat)),(y (107:Nat)),(y (108:Nat)),(y (109:Nat)),(y (110:Nat)),(y (111:Nat)),(y (112:Nat)),(y (113:Nat)),(y (114:Nat))])) (u)→(bif u
 then ((@Eq (List TV) (o6 (fst f) (fst (snd f)) (fst (snd (snd f))) (fst (snd (snd (snd f)))) (snd (snd (snd (snd f))))) (o6 (fst f) (fst (snd f)) (fst (snd (snd f))) (fst (snd (snd (snd f)))) (snd (snd (snd (snd f))))))∧
 (((@Eq (Nat) 0 0)∧
 Pre ([(dZ (Wd.pc w) (Wd.B w) (Wd.U w) (Wd.D w) (Wd.S w) (Wd.C w) (Wd.F w) (Wd.W w)),(gf (fst f) (fst (snd f)) (fst (snd (snd f))) (fst (snd (snd (snd f)))) (snd (snd (snd (snd f)))) now tun)]++(ap y++ [(y (101:Nat)),(y (102:Nat)),(y (103:Nat)),(y (104:Nat)),(y (105:Nat)),(y (106:Nat)),(y (107:Nat)),(y (108:Nat)),(y (109:Nat)),(y (110:Nat)),(y (111:Nat)),(y (112:Nat)),(y (113:Nat)),(y (114:Nat))])))∧
 (∀v:Bk,(∀u_30:Bool,(WG ([(dZ (Wd.pc w) (Wd.B w) (Wd.U w) (Wd.D w) (Wd.S w) (Wd.C w) (Wd.F w) (Wd.W w)),(gf (fst f) (fst (snd f)) (fst (snd (snd f))) (fst (snd (snd (snd f)))) (snd (snd (snd (snd f)))) now tun)]++(ap y++ [(y (101:Nat)),(y (102:Nat)),(y (103:Nat)),(y (104:Nat)),(y (105:Nat)),(y (106:Nat)),(y (107:Nat)),(y (108:Nat)),(y (109:Nat)),(y (110:Nat)),(y (111:Nat)),(y (112:Nat)),(y (113:Nat)),(y (114:Nat))])) (b) (v) (u_30)→(bif bE neq (k6 k (1:Int))
 then Q bX ⟨[(.cells [(.val (.int .i64 (Wd.pc w))),(.vec 3 (Wd.B w) .none),(.vec 1 (Wd.U w) .none),(.vec 1 (Wd.D w) .none),(.vec 3 (Wd.S w) .none),(.vec 1 (Wd.C w) .none),(.vec 5 (Wd.F w) .none),(.vec 1 (Wd.W w) .none)]),(.cells [(.val (.int .i64 (fst f))),(.val (.int .u32 (fst (snd f)))),(.val (.int .u32 (fst (snd (snd f))))),(.val (.int .i64 (fst (snd (snd (snd f)))))),(.val (.int .i64 (snd (snd (snd (snd f)))))),(.val (.int .i64 (now))),(.val (.bool (tun)))])]++(ap y++ [(y (101:Nat)),(y (102:Nat)),(y (103:Nat)),(y (104:Nat)),(y (105:Nat)),(y (106:Nat)),(y (107:Nat)),(y (108:Nat)),(y (109:Nat)),(y (110:Nat)),(y (111:Nat)),(y (112:Nat)),(y (113:Nat)),(y (114:Nat)),(.cells [(.ptr 6 0),(.ptr 8 0),(.ptr 11 0),(.ptr 12 0),(.ptr 13 0),(.ptr 14 0)]),(.cells [(.val (.int .i64 (k))),(.val (.int .i64 (b))),(.val (.int .i64 (s))),(.val (.bool (n)))]),(.cells [(.val (.int .i64 (fst (fst en)))),(.val (.int .u32 (fst (snd (fst en))))),(.val (.int .u32 (fst (snd (snd (fst en)))))),(.val (.int .i64 (fst (snd (snd (snd (fst en))))))),(.val (.int .i64 (snd (snd (snd (snd (fst en))))))),(.val (.int .i64 (fst (snd en)))),(.val (.int .i64 (snd (snd en))))]),(.cells [(.val (.int .i64 (fst v))),(.val (.int .u32 (fst (snd v)))),(.val (.int .i64 (snd (snd v))))])]),[]⟩
 else (bif n
 then Q bX ⟨[(.cells [(.val (.int .i64 (Wd.pc w))),(.vec 3 (Wd.B w) .none),(.vec 1 (Wd.U w) .none),(.vec 1 (Wd.D w) .none),(.vec 3 (Wd.S w) .none),(.vec 1 (Wd.C w) .none),(.vec 5 (Wd.F w) .none),(.vec 1 (Wd.W w) .none)]),(.cells [(.val (.int .i64 (fst f))),(.val (.int .u32 (fst (snd f)))),(.val (.int .u32 (fst (snd (snd f))))),(.val (.int .i64 (fst (snd (snd (snd f)))))),(.val (.int .i64 (snd (snd (snd (snd f)))))),(.val (.int .i64 (now))),(.val (.bool (tun)))])]++(ap y++ [(y (101:Nat)),(y (102:Nat)),(y (103:Nat)),(y (104:Nat)),(y (105:Nat)),(y (106:Nat)),(y (107:Nat)),(y (108:Nat)),(y (109:Nat)),(y (110:Nat)),(y (111:Nat)),(y (112:Nat)),(y (113:Nat)),(y (114:Nat)),(.cells [(.ptr 6 0),(.ptr 8 0),(.ptr 11 0),(.ptr 12 0),(.ptr 13 0),(.ptr 14 0)]),(.cells [(.val (.int .i64 (k))),(.val (.int .i64 (b))),(.val (.int .i64 (s))),(.val (.bool (n)))]),(.cells [(.val (.int .i64 (fst (fst en)))),(.val (.int .u32 (fst (snd (fst en))))),(.val (.int .u32 (fst (snd (snd (fst en)))))),(.val (.int .i64 (fst (snd (snd (snd (fst en))))))),(.val (.int .i64 (snd (snd (snd (snd (fst en))))))),(.val (.int .i64 (fst (snd en)))),(.val (.int .i64 (snd (snd en))))]),(.cells [(.val (.int .i64 (fst v))),(.val (.int .u32 (fst (snd v)))),(.val (.int .i64 (snd (snd v))))])]),[]⟩
 else (bif !u_30
 then Q bX ⟨[(.cells [(.val (.int .i64 (Wd.pc w))),(.vec 3 (Wd.B w) .none),(.vec 1 (Wd.U w) .none),(.vec 1 (Wd.D w) .none),(.vec 3 (Wd.S w) .none),(.vec 1 (Wd.C w) .none),(.vec 5 (Wd.F w) .none),(.vec 1 (Wd.W w) .none)]),(.cells [(.val (.int .i64 (fst f))),(.val (.int .u32 (fst (snd f)))),(.val (.int .u32 (fst (snd (snd f))))),(.val (.int .i64 (fst (snd (snd (snd f)))))),(.val (.int .i64 (snd (snd (snd (snd f)))))),(.val (.int .i64 (now))),(.val (.bool (tun)))])]++(ap y++ [(y (101:Nat)),(y (102:Nat)),(y (103:Nat)),(y (104:Nat)),(y (105:Nat)),(y (106:Nat)),(y (107:Nat)),(y (108:Nat)),(y (109:Nat)),(y (110:Nat)),(y (111:Nat)),(y (112:Nat)),(y (113:Nat)),(y (114:Nat)),(.cells [(.ptr 6 0),(.ptr 8 0),(.ptr 11 0),(.ptr 12 0),(.ptr 13 0),(.ptr 14 0)]),(.cells [(.val (.int .i64 (k))),(.val (.int .i64 (b))),(.val (.int .i64 (s))),(.val (.bool (n)))]),(.cells [(.val (.int .i64 (fst (fst en)))),(.val (.int .u32 (fst (snd (fst en))))),(.val (.int .u32 (fst (snd (snd (fst en)))))),(.val (.int .i64 (fst (snd (snd (snd (fst en))))))),(.val (.int .i64 (snd (snd (snd (snd (fst en))))))),(.val (.int .i64 (fst (snd en)))),(.val (.int .i64 (snd (snd en))))]),(.cells [(.val (.int .i64 (fst v))),(.val (.int .u32 (fst (snd v)))),(.val (.int .i64 (snd (snd v))))])]),[]⟩
 else (((@Eq (Nat) 0 0)∧
 ((@Eq (List TV) jU jU)∧
 Pre ([(dZ (Wd.pc w) (Wd.B w) (Wd.U w) (Wd.D w) (Wd.S w) (Wd.C w) (Wd.F w) (Wd.W w)),(gf (fst f) (fst (snd f)) (fst (snd (snd f))) (fst (snd (snd (snd f)))) (snd (snd (snd (snd f)))) now tun)]++(ap y++ [(y (101:Nat)),(y (102:Nat)),(y (103:Nat)),(y (104:Nat)),(y (105:Nat)),(y (106:Nat)),(y (107:Nat)),(y (108:Nat)),(y (109:Nat)),(y (110:Nat)),(y (111:Nat)),(y (112:Nat)),(y (113:Nat)),(y (114:Nat))]))))∧
 (∀L:Bs,(WL ([(dZ (Wd.pc w) (Wd.B w) (Wd.U w) (Wd.D w) (Wd.S w) (Wd.C w) (Wd.F w) (Wd.W w)),(gf (fst f) (fst (snd f)) (fst (snd (snd f))) (fst (snd (snd (snd f)))) (snd (snd (snd (snd f)))) now tun)]++(ap y++ [(y (101:Nat)),(y (102:Nat)),(y (103:Nat)),(y (104:Nat)),(y (105:Nat)),(y (106:Nat)),(y (107:Nat)),(y (108:Nat)),(y (109:Nat)),(y (110:Nat)),(y (111:Nat)),(y (112:Nat)),(y (113:Nat)),(y (114:Nat))])) (L)→((av prog oe (0:Nat)=av prog oe (0:Nat))∧
 (((@Eq (Option Nat) .none .none)∧
 ((@Eq (Nat) 0 0)∧
 ((@Eq (List Nat) [] [])∧
 ((@Eq (Bool) true true)∧
 ((@Eq (Int) (key) (key))∧
 ((@Eq (Nat) 120 120)∧
 ((@Eq (Bool) false false)∧
 ((@Eq (Int) ((↑(length L):Int)) ((↑(length L):Int)))∧
 ((@Eq (Int) 0 0)∧
 Lp (L) ⟨[(.cells [(.val (.int .i64 (Wd.pc w))),(.vec 3 (Wd.B w) .none),(.vec 1 (Wd.U w) .none),(.vec 1 (Wd.D w) .none),(.vec 3 (Wd.S w) .none),(.vec 1 (Wd.C w) .none),(.vec 5 (Wd.F w) .none),(.vec 1 (Wd.W w) .none)]),(.cells [(.val (.int .i64 (fst f))),(.val (.int .u32 (fst (snd f)))),(.val (.int .u32 (fst (snd (snd f))))),(.val (.int .i64 (fst (snd (snd (snd f)))))),(.val (.int .i64 (snd (snd (snd (snd f)))))),(.val (.int .i64 (now))),(.val (.bool (tun)))])]++(ap y++ [(y (101:Nat)),(y (102:Nat)),(y (103:Nat)),(y (104:Nat)),(y (105:Nat)),(y (106:Nat)),(y (107:Nat)),(y (108:Nat)),(y (109:Nat)),(y (110:Nat)),(y (111:Nat)),(y (112:Nat)),(y (113:Nat)),(y (114:Nat)),(.cells [(.ptr 6 0),(.ptr 8 0),(.ptr 11 0),(.ptr 12 0),(.ptr 13 0),(.ptr 14 0)]),(.cells [(.val (.int .i64 (k))),(.val (.int .i64 (b))),(.val (.int .i64 (s))),(.val (.bool (n)))]),(.cells [(.val (.int .i64 (fst (fst en)))),(.val (.int .u32 (fst (snd (fst en))))),(.val (.int .u32 (fst (snd (snd (fst en)))))),(.val (.int .i64 (fst (snd (snd (snd (fst en))))))),(.val (.int .i64 (snd (snd (snd (snd (fst en))))))),(.val (.int .i64 (fst (snd en)))),(.val (.int .i64 (snd (snd en))))]),(.cells [(.val (.int .i64 (fst v))),(.val (.int .u32 (fst (snd v)))),(.val (.int .i64 (snd (snd v))))])]),[]⟩)))))))))∧
 Q fH ⟨[(.cells [(.val (.int .i64 (Wd.pc w))),(.vec 3 (Wd.B w) .none),(.vec 1 (Wd.U w) .none),(.vec 1 (Wd.D w) .none),(.vec 3 (Wd.S w) .none),(.vec 1 (Wd.C w) .none),(.vec 5 (Wd.F w) .none),(.vec 1 (Wd.W w) .none)]),(.cells [(.val (.int .i64 (fst f))),(.val (.int .u32 (fst (snd f)))),(.val (.int .u32 (fst (snd (snd f))))),(.val (.int .i64 (fst (snd (snd (snd f)))))),(.val (.int .i64 (snd (snd (snd (snd f)))))),(.val (.int .i64 (now))),(.val (.bool (tun)))])]++(ap y++ [(y (101:Nat)),(y (102:Nat)),(y (103:Nat)),(y (104:Nat)),(y (105:Nat)),(y (106:Nat)),(y (107:Nat)),(y (108:Nat)),(y (109:Nat)),(y (110:Nat)),(y (111:Nat)),(y (112:Nat)),(y (113:Nat)),(y (114:Nat)),(.cells [(.ptr 6 0),(.ptr 8 0),(.ptr 11 0),(.ptr 12 0),(.ptr 13 0),(.ptr 14 0)]),(.cells [(.val (.int .i64 (k))),(.val (.int .i64 (b))),(.val (.int .i64 (s))),(.val (.bool (n)))]),(.cells [(.val (.int .i64 (fst (fst en)))),(.val (.int .u32 (fst (snd (fst en))))),(.val (.int .u32 (fst (snd (snd (fst en)))))),(.val (.int .i64 (fst (snd (snd (snd (fst en))))))),(.val (.int .i64 (snd (snd (snd (snd (fst en))))))),(.val (.int .i64 (fst (snd en)))),(.val (.int .i64 (snd (snd en))))]),(.cells [(.val (.int .i64 (fst v))),(.val (.int .u32 (fst (snd v)))),(.val (.int .i64 (snd (snd v))))])]),[]⟩)))))))))))))
 else (((@Eq (Nat) 0 0)∧
 ((@Eq (List TV) (tI now) (tI now))∧
 Pre ([(dZ (Wd.pc w) (Wd.B w) (Wd.U w) (Wd.D w) (Wd.S w) (Wd.C w) (Wd.F w) (Wd.W w)),(gf (fst f) (fst (snd f)) (fst (snd (snd f))) (fst (snd (snd (snd f)))) (snd (snd (snd (snd f)))) now tun)]++(ap y++ [(y (101:Nat)),(y (102:Nat)),(y (103:Nat)),(y (104:Nat)),(y (105:Nat)),(y (106:Nat)),(y (107:Nat)),(y (108:Nat)),(y (109:Nat)),(y (110:Nat)),(y (111:Nat)),(y (112:Nat)),(y (113:Nat)),(y (114:Nat))]))))∧
 (∀v:Bk,(∀u_30:Bool,(WB ([(dZ (Wd.pc w) (Wd.B w) (Wd.U w) (Wd.D w) (Wd.S w) (Wd.C w) (Wd.F w) (Wd.W w)),(gf (fst f) (fst (snd f)) (fst (snd (snd f))) (fst (snd (snd (snd f)))) (snd (snd (snd (snd f)))) now tun)]++(ap y++ [(y (101:Nat)),(y (102:Nat)),(y (103:Nat)),(y (104:Nat)),(y (105:Nat)),(y (106:Nat)),(y (107:Nat)),(y (108:Nat)),(y (109:Nat)),(y (110:Nat)),(y (111:Nat)),(y (112:Nat)),(y (113:Nat)),(y (114:Nat))])) (v) (u_30)→(bif u_30
 then (bif !tun
 then (bif bE eql (k6 k (2:Int))
 then (bif bE eql (k6 s (fst v))
 then (bif bE eql (k6 b (0:Int))
 then Q fH ⟨[(.cells [(.val (.int .i64 (Wd.pc w))),(.vec 3 (Wd.B w) .none),(.vec 1 (Wd.U w) .none),(.vec 1 (Wd.D w) .none),(.vec 3 (Wd.S w) .none),(.vec 1 (Wd.C w) .none),(.vec 5 (Wd.F w) .none),(.vec 1 (Wd.W w) .none)]),(.cells [(.val (.int .i64 (fst f))),(.val (.int .u32 (fst (snd f)))),(.val (.int .u32 (fst (snd (snd f))))),(.val (.int .i64 (fst (snd (snd (snd f)))))),(.val (.int .i64 (snd (snd (snd (snd f)))))),(.val (.int .i64 (now))),(.val (.bool (tun)))])]++(ap y++ [(y (101:Nat)),(y (102:Nat)),(y (103:Nat)),(y (104:Nat)),(y (105:Nat)),(y (106:Nat)),(y (107:Nat)),(y (108:Nat)),(y (109:Nat)),(y (110:Nat)),(y (111:Nat)),(y (112:Nat)),(y (113:Nat)),(y (114:Nat)),(.cells [(.ptr 6 0),(.ptr 8 0),(.ptr 11 0),(.ptr 12 0),(.ptr 13 0),(.ptr 14 0)]),(.cells [(.val (.int .i64 (k))),(.val (.int .i64 (b))),(.val (.int .i64 (s))),(.val (.bool (n)))]),(.cells [(.val (.int .i64 (fst (fst en)))),(.val (.int .u32 (fst (snd (fst en))))),(.val (.int .u32 (fst (snd (snd (fst en)))))),(.val (.int .i64 (fst (snd (snd (snd (fst en))))))),(.val (.int .i64 (snd (snd (snd (snd (fst en))))))),(.val (.int .i64 (fst (snd en)))),(.val (.int .i64 (snd (snd en))))]),(.cells [(.val (.int .i64 (fst v))),(.val (.int .u32 (fst (snd v)))),(.val (.int .i64 (snd (snd v))))])]),[]⟩
 else Q bX ⟨[(.cells [(.val (.int .i64 (Wd.pc w))),(.vec 3 (Wd.B w) .none),(.vec 1 (Wd.U w) .none),(.vec 1 (Wd.D w) .none),(.vec 3 (Wd.S w) .none),(.vec 1 (Wd.C w) .none),(.vec 5 (Wd.F w) .none),(.vec 1 (Wd.W w) .none)]),(.cells [(.val (.int .i64 (fst f))),(.val (.int .u32 (fst (snd f)))),(.val (.int .u32 (fst (snd (snd f))))),(.val (.int .i64 (fst (snd (snd (snd f)))))),(.val (.int .i64 (snd (snd (snd (snd f)))))),(.val (.int .i64 (now))),(.val (.bool (tun)))])]++(ap y++ [(y (101:Nat)),(y (102:Nat)),(y (103:Nat)),(y (104:Nat)),(y (105:Nat)),(y (106:Nat)),(y (107:Nat)),(y (108:Nat)),(y (109:Nat)),(y (110:Nat)),(y (111:Nat)),(y (112:Nat)),(y (113:Nat)),(y (114:Nat)),(.cells [(.ptr 6 0),(.ptr 8 0),(.ptr 11 0),(.ptr 12 0),(.ptr 13 0),(.ptr 14 0)]),(.cells [(.val (.int .i64 (k))),(.val (.int .i64 (b))),(.val (.int .i64 (s))),(.val (.bool (n)))]),(.cells [(.val (.int .i64 (fst (fst en)))),(.val (.int .u32 (fst (snd (fst en))))),(.val (.int .u32 (fst (snd (snd (fst en)))))),(.val (.int .i64 (fst (snd (snd (snd (fst en))))))),(.val (.int .i64 (snd (snd (snd (snd (fst en))))))),(.val (.int .i64 (fst (snd en)))),(.val (.int .i64 (snd (snd en))))]),(.cells [(.val (.int .i64 (fst v))),(.val (.int .u32 (fst (snd v)))),(.val (.int .i64 (snd (snd v))))])]),[]⟩)
 else Q bX ⟨[(.cells [(.val (.int .i64 (Wd.pc w))),(.vec 3 (Wd.B w) .none),(.vec 1 (Wd.U w) .none),(.vec 1 (Wd.D w) .none),(.vec 3 (Wd.S w) .none),(.vec 1 (Wd.C w) .none),(.vec 5 (Wd.F w) .none),(.vec 1 (Wd.W w) .none)]),(.cells [(.val (.int .i64 (fst f))),(.val (.int .u32 (fst (snd f)))),(.val (.int .u32 (fst (snd (snd f))))),(.val (.int .i64 (fst (snd (snd (snd f)))))),(.val (.int .i64 (snd (snd (snd (snd f)))))),(.val (.int .i64 (now))),(.val (.bool (tun)))])]++(ap y++ [(y (101:Nat)),(y (102:Nat)),(y (103:Nat)),(y (104:Nat)),(y (105:Nat)),(y (106:Nat)),(y (107:Nat)),(y (108:Nat)),(y (109:Nat)),(y (110:Nat)),(y (111:Nat)),(y (112:Nat)),(y (113:Nat)),(y (114:Nat)),(.cells [(.ptr 6 0),(.ptr 8 0),(.ptr 11 0),(.ptr 12 0),(.ptr 13 0),(.ptr 14 0)]),(.cells [(.val (.int .i64 (k))),(.val (.int .i64 (b))),(.val (.int .i64 (s))),(.val (.bool (n)))]),(.cells [(.val (.int .i64 (fst (fst en)))),(.val (.int .u32 (fst (snd (fst en))))),(.val (.int .u32 (fst (snd (snd (fst en)))))),(.val (.int .i64 (fst (snd (snd (snd (fst en))))))),(.val (.int .i64 (snd (snd (snd (snd (fst en))))))),(.val (.int .i64 (fst (snd en)))),(.val (.int .i64 (snd (snd en))))]),(.cells [(.val (.int .i64 (fst v))),(.val (.int .u32 (fst (snd v)))),(.val (.int .i64 (snd (snd v))))])]),[]⟩)
 else Q bX ⟨[(.cells [(.val (.int .i64 (Wd.pc w))),(.vec 3 (Wd.B w) .none),(.vec 1 (Wd.U w) .none),(.vec 1 (Wd.D w) .none),(.vec 3 (Wd.S w) .none),(.vec 1 (Wd.C w) .none),(.vec 5 (Wd.F w) .none),(.vec 1 (Wd.W w) .none)]),(.cells [(.val (.int .i64 (fst f))),(.val (.int .u32 (fst (snd f)))),(.val (.int .u32 (fst (snd (snd f))))),(.val (.int .i64 (fst (snd (snd (snd f)))))),(.val (.int .i64 (snd (snd (snd (snd f)))))),(.val (.int .i64 (now))),(.val (.bool (tun)))])]++(ap y++ [(y (101:Nat)),(y (102:Nat)),(y (103:Nat)),(y (104:Nat)),(y (105:Nat)),(y (106:Nat)),(y (107:Nat)),(y (108:Nat)),(y (109:Nat)),(y (110:Nat)),(y (111:Nat)),(y (112:Nat)),(y (113:Nat)),(y (114:Nat)),(.cells [(.ptr 6 0),(.ptr 8 0),(.ptr 11 0),(.ptr 12 0),(.ptr 13 0),(.ptr 14 0)]),(.cells [(.val (.int .i64 (k))),(.val (.int .i64 (b))),(.val (.int .i64 (s))),(.val (.bool (n)))]),(.cells [(.val (.int .i64 (fst (fst en)))),(.val (.int .u32 (fst (snd (fst en))))),(.val (.int .u32 (fst (snd (snd (fst en)))))),(.val (.int .i64 (fst (snd (snd (snd (fst en))))))),(.val (.int .i64 (snd (snd (snd (snd (fst en))))))),(.val (.int .i64 (fst (snd en)))),(.val (.int .i64 (snd (snd en))))]),(.cells [(.val (.int .i64 (fst v))),(.val (.int .u32 (fst (snd v)))),(.val (.int .i64 (snd (snd v))))])]),[]⟩)
 else (bif bE eql
  (aj ((λvs=>Value.agg (toArray vs)) ((λx=>Value.int i64 k::x) ((λx=>Value.int i64 b::x) ((λx=>Value.int i64 s::x) ((λx=>Value.bool n::x) [])))))
   ((λvs=>Value.agg (toArray vs)) ((λx=>Value.int i64 (0:Int)::x) ((λx=>Value.int i64 (0:Int)::x) ((λx=>Value.int i64 (0:Int)::x) ((λx=>Value.bool false::x) []))))))
 then Q fH ⟨[(.cells [(.val (.int .i64 (Wd.pc w))),(.vec 3 (Wd.B w) .none),(.vec 1 (Wd.U w) .none),(.vec 1 (Wd.D w) .none),(.vec 3 (Wd.S w) .none),(.vec 1 (Wd.C w) .none),(.vec 5 (Wd.F w) .none),(.vec 1 (Wd.W w) .none)]),(.cells [(.val (.int .i64 (fst f))),(.val (.int .u32 (fst (snd f)))),(.val (.int .u32 (fst (snd (snd f))))),(.val (.int .i64 (fst (snd (snd (snd f)))))),(.val (.int .i64 (snd (snd (snd (snd f)))))),(.val (.int .i64 (now))),(.val (.bool (tun)))])]++(ap y++ [(y (101:Nat)),(y (102:Nat)),(y (103:Nat)),(y (104:Nat)),(y (105:Nat)),(y (106:Nat)),(y (107:Nat)),(y (108:Nat)),(y (109:Nat)),(y (110:Nat)),(y (111:Nat)),(y (112:Nat)),(y (113:Nat)),(y (114:Nat)),(.cells [(.ptr 6 0),(.ptr 8 0),(.ptr 11 0),(.ptr 12 0),(.ptr 13 0),(.ptr 14 0)]),(.cells [(.val (.int .i64 (k))),(.val (.int .i64 (b))),(.val (.int .i64 (s))),(.val (.bool (n)))]),(.cells [(.val (.int .i64 (fst (fst en)))),(.val (.int .u32 (fst (snd (fst en))))),(.val (.int .u32 (fst (snd (snd (fst en)))))),(.val (.int .i64 (fst (snd (snd (snd (fst en))))))),(.val (.int .i64 (snd (snd (snd (snd (fst en))))))),(.val (.int .i64 (fst (snd en)))),(.val (.int .i64 (snd (snd en))))]),(.cells [(.val (.int .i64 (fst v))),(.val (.int .u32 (fst (snd v)))),(.val (.int .i64 (snd (snd v))))])]),[]⟩
 else Q bX ⟨[(.cells [(.val (.int .i64 (Wd.pc w))),(.vec 3 (Wd.B w) .none),(.vec 1 (Wd.U w) .none),(.vec 1 (Wd.D w) .none),(.vec 3 (Wd.S w) .none),(.vec 1 (Wd.C w) .none),(.vec 5 (Wd.F w) .none),(.vec 1 (Wd.W w) .none)]),(.cells [(.val (.int .i64 (fst f))),(.val (.int .u32 (fst (snd f)))),(.val (.int .u32 (fst (snd (snd f))))),(.val (.int .i64 (fst (snd (snd (snd f)))))),(.val (.int .i64 (snd (snd (snd (snd f)))))),(.val (.int .i64 (now))),(.val (.bool (tun)))])]++(ap y++ [(y (101:Nat)),(y (102:Nat)),(y (103:Nat)),(y (104:Nat)),(y (105:Nat)),(y (106:Nat)),(y (107:Nat)),(y (108:Nat)),(y (109:Nat)),(y (110:Nat)),(y (111:Nat)),(y (112:Nat)),(y (113:Nat)),(y (114:Nat)),(.cells [(.ptr 6 0),(.ptr 8 0),(.ptr 11 0),(.ptr 12 0),(.ptr 13 0),(.ptr 14 0)]),(.cells [(.val (.int .i64 (k))),(.val (.int .i64 (b))),(.val (.int .i64 (s))),(.val (.bool (n)))]),(.cells [(.val (.int .i64 (fst (fst en)))),(.val (.int .u32 (fst (snd (fst en))))),(.val (.int .u32 (fst (snd (snd (fst en)))))),(.val (.int .i64 (fst (snd (snd (snd (fst en))))))),(.val (.int .i64 (snd (snd (snd (snd (fst en))))))),(.val (.int .i64 (fst (snd en)))),(.val (.int .i64 (snd (snd en))))]),(.cells [(.val (.int .i64 (fst v))),(.val (.int .u32 (fst (snd v)))),(.val (.int .i64 (snd (snd v))))])]),[]⟩))
 else (bif bE eql
  (aj ((λvs=>Value.agg (toArray vs)) ((λx=>Value.int i64 k::x) ((λx=>Value.int i64 b::x) ((λx=>Value.int i64 s::x) ((λx=>Value.bool n::x) [])))))
   ((λvs=>Value.agg (toArray vs)) ((λx=>Value.int i64 (0:Int)::x) ((λx=>Value.int i64 (0:Int)::x) ((λx=>Value.int i64 (0:Int)::x) ((λx=>Value.bool false::x) []))))))
 then Q fH ⟨[(.cells [(.val (.int .i64 (Wd.pc w))),(.vec 3 (Wd.B w) .none),(.vec 1 (Wd.U w) .none),(.vec 1 (Wd.D w) .none),(.vec 3 (Wd.S w) .none),(.vec 1 (Wd.C w) .none),(.vec 5 (Wd.F w) .none),(.vec 1 (Wd.W w) .none)]),(.cells [(.val (.int .i64 (fst f))),(.val (.int .u32 (fst (snd f)))),(.val (.int .u32 (fst (snd (snd f))))),(.val (.int .i64 (fst (snd (snd (snd f)))))),(.val (.int .i64 (snd (snd (snd (snd f)))))),(.val (.int .i64 (now))),(.val (.bool (tun)))])]++(ap y++ [(y (101:Nat)),(y (102:Nat)),(y (103:Nat)),(y (104:Nat)),(y (105:Nat)),(y (106:Nat)),(y (107:Nat)),(y (108:Nat)),(y (109:Nat)),(y (110:Nat)),(y (111:Nat)),(y (112:Nat)),(y (113:Nat)),(y (114:Nat)),(.cells [(.ptr 6 0),(.ptr 8 0),(.ptr 11 0),(.ptr 12 0),(.ptr 13 0),(.ptr 14 0)]),(.cells [(.val (.int .i64 (k))),(.val (.int .i64 (b))),(.val (.int .i64 (s))),(.val (.bool (n)))]),(.cells [(.val (.int .i64 (fst (fst en)))),(.val (.int .u32 (fst (snd (fst en))))),(.val (.int .u32 (fst (snd (snd (fst en)))))),(.val (.int .i64 (fst (snd (snd (snd (fst en))))))),(.val (.int .i64 (snd (snd (snd (snd (fst en))))))),(.val (.int .i64 (fst (snd en)))),(.val (.int .i64 (snd (snd en))))]),(.cells [(.val (.int .i64 (fst v))),(.val (.int .u32 (fst (snd v)))),(.val (.int .i64 (snd (snd v))))])]),[]⟩
 else Q bX ⟨[(.cells [(.val (.int .i64 (Wd.pc w))),(.vec 3 (Wd.B w) .none),(.vec 1 (Wd.U w) .none),(.vec 1 (Wd.D w) .none),(.vec 3 (Wd.S w) .none),(.vec 1 (Wd.C w) .none),(.vec 5 (Wd.F w) .none),(.vec 1 (Wd.W w) .none)]),(.cells [(.val (.int .i64 (fst f))),(.val (.int .u32 (fst (snd f)))),(.val (.int .u32 (fst (snd (snd f))))),(.val (.int .i64 (fst (snd (snd (snd f)))))),(.val (.int .i64 (snd (snd (snd (snd f)))))),(.val (.int .i64 (now))),(.val (.bool (tun)))])]++(ap y++ [(y (101:Nat)),(y (102:Nat)),(y (103:Nat)),(y (104:Nat)),(y (105:Nat)),(y (106:Nat)),(y (107:Nat)),(y (108:Nat)),(y (109:Nat)),(y (110:Nat)),(y (111:Nat)),(y (112:Nat)),(y (113:Nat)),(y (114:Nat)),(.cells [(.ptr 6 0),(.ptr 8 0),(.ptr 11 0),(.ptr 12 0),(.ptr 13 0),(.ptr 14 0)]),(.cells [(.val (.int .i64 (k))),(.val (.int .i64 (b))),(.val (.int .i64 (s))),(.val (.bool (n)))]),(.cells [(.val (.int .i64 (fst (fst en)))),(.val (.int .u32 (fst (snd (fst en))))),(.val (.int .u32 (fst (snd (snd (fst en)))))),(.val (.int .i64 (fst (snd (snd (snd (fst en))))))),(.val (.int .i64 (snd (snd (snd (snd (fst en))))))),(.val (.int .i64 (fst (snd en)))),(.val (.int .i64 (snd (snd en))))]),(.cells [(.val (.int .i64 (fst v))),(.val (.int .u32 (fst (snd v)))),(.val (.int .i64 (snd (snd v))))])]),[]⟩)))))))))))))))))))))))))):=by kernel_rfl
theorem Dm (a b:VO)(y:Nat→VO)(z1 z2 z3:VO)(sc:Int→Int→Int→Int)(key:Int)(q:Bool)(L:Bs)(xv v:Bk)(j:Nat)(Q:Exit→List TV→VT→List Nat→Nat→Prop):vx prog ae (aE [(K5,E3 (Ji sc))]) (bw [(999998,.dead,none),(100,.elt (eV v.1 v.2.1 v.2.2),none)]) 300 bq none 0 (dh prog oe 0) (ax 164 vm (lw key q L j)) (rT a b y [z1,z2,z3,.cells (eV xv.1 xv.2.1 xv.2.2)]) [] (dl vm Q)=
 (bif decide ((↑j:Int)<(↑(length L):Int))
 then (aI prog (λ_=>.none) (.indexAddr 22 (.tmp 96) (.tmp 98)) [(96,(dE L)),(98,(ar (↑j:Int)))] (tM (fst v) (fst (snd v)) (snd (snd v)))∧
 (bif q
 then (((@Eq (Option TV) (.some (ar (snd (snd xv)))) (.some (ar (snd (snd xv)))))∧
 ((@Eq (Option TV) (.some (ar (fst xv))) (.some (ar (fst xv))))∧
 ((@Eq (Option TV) (.some (ar (snd (snd v)))) (.some (ar (snd (snd v)))))∧
 ((@Eq (Option TV) (.some (ar (fst v))) (.some (ar (fst v))))∧
 True))))∧
 (bif decide (sc key (fst v) (snd (snd v))>sc key (fst xv) (snd (snd xv)))
 then Q .ret [(uT key),(.ptr 120 0),fH,(dE L),(ar (↑(length L):Int)),(ar (↑j:Int))] ⟨[(a),(b)]++(ap y++ [(y (101:Nat)),(y (102:Nat)),(y (103:Nat)),(y (104:Nat)),(y (105:Nat)),(y (106:Nat)),(y (107:Nat)),(y (108:Nat)),(y (109:Nat)),(y (110:Nat)),(y (111:Nat)),(y (112:Nat)),(y (113:Nat)),(y (114:Nat)),(z1),(z2),(z3),(.cells [(.val (.int .i64 (fst xv))),(.val (.int .u32 (fst (snd xv)))),(.val (.int .i64 (snd (snd xv))))]),(.cells [(.val (.int .i64 (fst v))),(.val (.int .u32 (fst (snd v)))),(.val (.int .i64 (snd (snd v))))])]),[]⟩ [] 164
 else Q .normal [(uT key),(.ptr 120 0),fH,(dE L),(ar (↑(length L):Int)),(ar (wrap i64 ((↑j:Int)+(1:Int))))] ⟨[(a),(b)]++(ap y++ [(y (101:Nat)),(y (102:Nat)),(y (103:Nat)),(y (104:Nat)),(y (105:Nat)),(y (106:Nat)),(y (107:Nat)),(y (108:Nat)),(y (109:Nat)),(y (110:Nat)),(y (111:Nat)),(y (112:Nat)),(y (113:Nat)),(y (114:Nat)),(z1),(z2),(z3),(.cells [(.val (.int .i64 (fst xv))),(.val (.int .u32 (fst (snd xv)))),(.val (.int .i64 (snd (snd xv))))]),(.cells [(.val (.int .i64 (fst v))),(.val (.int .u32 (fst (snd v)))),(.val (.int .i64 (snd (snd v))))])]),[]⟩ [] 164))
 else (((@Eq (Option TV) (.some (ar (snd (snd xv)))) (.some (ar (snd (snd xv)))))∧
 ((@Eq (Option TV) (.some (ar (fst xv))) (.some (ar (fst xv))))∧
 ((@Eq (Option TV) (.some (ar (snd (snd v)))) (.some (ar (snd (snd v)))))∧
 ((@Eq (Option TV) (.some (ar (fst v))) (.some (ar (fst v))))∧
 True))))∧
 (bif decide (sc key (fst v) (snd (snd v))>sc key (fst xv) (snd (snd xv)))
 then Q .ret (Hn key (bE eql
  (aj ((λvs=>Value.agg (toArray vs)) ((λx=>Value.int i64 (fst v)::x) ((λx=>Value.int u32 (fst (snd v))::x) ((λx=>Value.int i64 (snd (snd v))::x) []))))
   ((λvs=>Value.agg (toArray vs)) ((λx=>Value.int i64 (fst xv)::x) ((λx=>Value.int u32 (fst (snd xv))::x) ((λx=>Value.int i64 (snd (snd xv))::x) [])))))) L (↑(length L):Int) (↑j:Int)) ⟨[(a),(b)]++(ap y++ [(y (101:Nat)),(y (102:Nat)),(y (103:Nat)),(y (104:Nat)),(y (105:Nat)),(y (106:Nat)),(y (107:Nat)),(y (108:Nat)),(y (109:Nat)),(y (110:Nat)),(y (111:Nat)),(y (112:Nat)),(y (113:Nat)),(y (114:Nat)),(z1),(z2),(z3),(.cells [(.val (.int .i64 (fst xv))),(.val (.int .u32 (fst (snd xv)))),(.val (.int .i64 (snd (snd xv))))]),(.cells [(.val (.int .i64 (fst v))),(.val (.int .u32 (fst (snd v)))),(.val (.int .i64 (snd (snd v))))])]),[]⟩ [] 164
 else Q .normal (Hn key (bE eql
  (aj ((λvs=>Value.agg (toArray vs)) ((λx=>Value.int i64 (fst v)::x) ((λx=>Value.int u32 (fst (snd v))::x) ((λx=>Value.int i64 (snd (snd v))::x) []))))
   ((λvs=>Value.agg (toArray vs)) ((λx=>Value.int i64 (fst xv)::x) ((λx=>Value.int u32 (fst (snd xv))::x) ((λx=>Value.int i64 (snd (snd xv))::x) [])))))) L (↑(length L):Int) (wrap i64 ((↑j:Int)+(1:Int)))) ⟨[(a),(b)]++(ap y++ [(y (101:Nat)),(y (102:Nat)),(y (103:Nat)),(y (104:Nat)),(y (105:Nat)),(y (106:Nat)),(y (107:Nat)),(y (108:Nat)),(y (109:Nat)),(y (110:Nat)),(y (111:Nat)),(y (112:Nat)),(y (113:Nat)),(y (114:Nat)),(z1),(z2),(z3),(.cells [(.val (.int .i64 (fst xv))),(.val (.int .u32 (fst (snd xv)))),(.val (.int .i64 (snd (snd xv))))]),(.cells [(.val (.int .i64 (fst v))),(.val (.int .u32 (fst (snd v)))),(.val (.int .i64 (snd (snd v))))])]),[]⟩ [] 164))))
 else Q (.exit 0) (Hn key q L (↑(length L):Int) (↑j:Int)) ⟨[(a),(b)]++(ap y++ [(y (101:Nat)),(y (102:Nat)),(y (103:Nat)),(y (104:Nat)),(y (105:Nat)),(y (106:Nat)),(y (107:Nat)),(y (108:Nat)),(y (109:Nat)),(y (110:Nat)),(y (111:Nat)),(y (112:Nat)),(y (113:Nat)),(y (114:Nat)),(z1),(z2),(z3),(.cells [(.val (.int .i64 (fst xv))),(.val (.int .u32 (fst (snd xv)))),(.val (.int .i64 (snd (snd xv))))])]),[]⟩ [] 164):=by kernel_rfl
set_option maxRecDepth 100000
section
open Go.RowKit Go.Maps Go.Sort
theorem pH (q:IntKind)(x y:Int):bE eql (aj (.int q x) (.int q y))=decide (x=y):=by
 simp [bE,aj,cH,Bool.beq_eq_decide_eq]
theorem Jj (q:IntKind)(x y:Int):bE neq (aj (.int q x) (.int q y))= !decide (x=y):=by
 simp [bE,aj,cH,Bool.beq_eq_decide_eq]
theorem Lv (v x:Bk):bE eql (aj (.agg #[.int .i64 v.1,.int .u32 v.2.1,.int .i64 v.2.2]) (.agg #[.int .i64 x.1,.int .u32 x.2.1,.int .i64 x.2.2]))=decide (v=x):=by
 obtain ⟨a,b,c⟩:=v
 obtain ⟨a',b',c'⟩:=x
 simp [bE,aj,du,cH,Bool.beq_eq_decide_eq,Prod.mk.injEq]
theorem zH (f:Nat→Int):∀n,0≤gJ f n
 | 0=>Int.le_refl 0
 |n+1=>by
  have:=zH f n
  simp only [gJ,mx]
  split<;>omega
theorem Jk (key:Int)(y x:Bk)(h:¬0<y.2.2):bx key y.1 y.2.2≤bx key x.1 x.2.2:=by
 have hc:iV y.2.2=0:=by
  unfold iV
  split
  ·rfl
  ·rw [if_neg (by omega)];omega
 have e:bx key y.1 y.2.2=0:=by
  unfold bx
  rw [hc];rfl
 rw [e]
 exact zH _ _
def jk (A:List VO):Prop:=∃i,MdA A i
theorem F4 {a b:VO}{y:Nat→VO}{i:MdI}(h:(rT a b y []).objs=(i.T []).objs)(l:List VO):rT a b y l=i.T l:=by
 have e:(rT a b y l).objs=(rT a b y []).objs++l:=by
  simp only [rT,List.cons_append,List.append_assoc,List.nil_append]
 have e2:(i.T l).objs=(i.T []).objs++l:=by
  simp only [MdI.T,fy,List.append_assoc,List.nil_append]
 show (⟨(rT a b y l).objs,[]⟩:VT)=⟨(i.T l).objs,[]⟩
 rw [e,e2,h]
section
variable {w:Wd}{f:Fl}{now:Int}{tun:Bool}
theorem G6 (f:Fl)(now:Int)(tun:Bool)(g h:Nat→Option Nat):VO.ren g h (.cells (dR f now tun))=.cells (dR f now tun):=rfl
theorem Jl (hw:mw w)(b:VO)(hb:∀g h,b.ren g h=b)(hl:b.live=true){X:(Nat→VO)→Prop}(hX:∀y i,MdA (rT (.cells w.cells) b y []).objs i→i.m≤100→i.O 0=.cells w.cells→i.O 1=b→X y):∀ro ys T K,I6 w.cells (.cells w.cells) b X ro ys T K→VCx prog ae ro ej ys T K:=by
 rintro ro ys T K ⟨⟨rfl,rfl,rfl⟩,hk⟩
 let o:Nat→VO:=λi=>match i with
  | 0=>.cells w.cells
  | 1=>b
  |_=>.gone
 have ho:uc o:=λi hi f g=>by
  match i,hi with
  | 0,_=>exact Dh hw f g
  | 1,_=>exact hb f g
  | 2,_=>rfl
  | 3,_=>rfl
  | 4,_=>rfl
  | 5,_=>rfl
  | 6,_=>rfl
  |k+7,hi=>omega
 refine (I5 (o:=o) ho hw).mono ?_
 rintro v T ⟨rfl,n,pm,sm,rm,u,q,r,rg,lk,es,ck,now,came,went,x,m,h⟩
 have hp:=h.hp
 have hs:=h.hs
 obtain ⟨plk,pes,pck,S,st,e1,p1⟩:=id hp
 obtain ⟨slk,ses,sck,rlk,res,rck,L,R,st2,e2,e3,s1,s2⟩:=id hs
 obtain ⟨y,hy⟩:=FZ (yc o w n pm sm rm u q r) rg lk es ck now came went x
 obtain ⟨Lq,_,eq⟩:=h.hq
 obtain ⟨Lu,cu,gu,_,eu⟩:=h.hu
 obtain ⟨Sr,Rr,_,er⟩:=h.hr
 rw [h.hT,←hy []]
 refine hk y (hX y ⟨n,S,L,R,yc o w n pm sm rm u q r,rg,lk,es,ck,now,came,went,x,m⟩ ?_ h.m1 rfl rfl)
 obtain ⟨e0,a0,c0,g1,_⟩:=h.hf.ring 4 (.inl rfl)
 have g2:rg=cW e0 a0 c0:=by
  unfold mr at g1
  rw [gG (by decide)] at g1
  simpa [cR] using g1
 exact {
  hA:=congrArg VT.objs (hy [])
  fix:=G4 (s7 ho hw hp.ren hs.ren1 hs.ren2 h.hu.ren h.hq.ren h.hr.ren)
  live:=λv hv=>by
   simp only [cR,yc,eW,mem_cons,not_mem_nil,or_false] at hv
   rcases hv with rfl | rfl | rfl | rfl | rfl | rfl | rfl | rfl | rfl | rfl | rfl | rfl | rfl | rfl | rfl | rfl
   ·rfl
   ·exact hl
   ·rfl
   ·rfl
   ·rw [g2];rfl
   ·rfl
   ·rfl
   ·rw [e1];rfl
   ·rfl
   ·rw [e2];rfl
   ·rw [e3];rfl
   ·rfl
   ·rw [eu];rfl
   ·rw [eq];rfl
   ·rw [er];rfl
   ·rfl
  fl:=h.hf
  n1:=h.n1
  n2:=h.n2
  po:=⟨plk,pes,pck,st,rfl,e1,p1⟩
  si:=⟨slk,ses,sck,rlk,res,rck,st2,rfl,e2,e3,s1,s2⟩}
theorem Jm (hw:mw w)(b:VO)(hb:∀g h,b.ren g h=b)(hl:b.live=true):∀ro ys T K,I6 w.cells (.cells w.cells) b (λy=>jk (rT (.cells w.cells) b y []).objs) ro ys T K→VCx prog ae ro ej ys T K:=
 Jl hw b hb hl λ_ i h _ _ _=>⟨i,h⟩
end
end
set_option maxRecDepth 100000
section
open Go.RowKit Go.Maps Go.Sort
noncomputable def eB (A:List VO):MdI:=open Classical in if h:jk A then h.choose else ⟨0,[],[],λ_=>none,λ_=>.gone,.gone,λ_=>none,[],0,0,0,0,λ_=>.gone,0⟩
theorem iD {A:List VO}(h:jk A):MdA A (eB A):=by
 unfold eB
 rw [dif_pos h]
 exact h.choose_spec
def Dn (f:Fl)(now:Int)(tun:Bool)(A:List VO)(k b s:Int)(n:Bool):Prop:=k=(jR (eB A) f now tun).1∧b=(jR (eB A) f now tun).2.1∧s=(jR (eB A) f now tun).2.2.1∧n=(jR (eB A) f now tun).2.2.2
def Do (f:Fl)(A:List VO)(en:En)(k:Bool):Prop:=en=(jP (eB A).lk (eB A).x f).getD ((0,0,0,0,0),0,0)∧k=(jP (eB A).lk (eB A).x f).isSome
def Dp (A:List VO)(z:Int)(u:Bool):Prop:=u=(bL (eB A).S z).2.1
def ye (A:List VO)(z:Int)(v:Bk)(u:Bool):Prop:=v=(bL (eB A).S z).1∧u=fM (eB A).S z
def Dq (A:List VO)(u:Bool):Prop:=u=jX (eB A).n (eB A).S
def yf (A:List VO)(L:Bs):Prop:=L=(cF (eB A).S).map aA
def yg (now:Int)(A:List VO)(v:Bk)(u:Bool):Prop:=v=sW (dd (eB A).L (eB A).R now)∧u=sX (dd (eB A).L (eB A).R now)
section
variable {w:Wd}{f:Fl}{now:Int}{tun:Bool}
theorem Jn:∀ro ys T K,K6 f now tun jk (Dn f now tun) ro ys T K→VCx prog ae ro FV ys T K:=by
 rintro ro ys T K ⟨⟨rfl,rfl,hp⟩,hk⟩
 refine (Jh (iD hp) rfl f now tun).mono ?_
 rintro r T' ⟨rfl,rfl⟩
 exact hk _ _ _ _ ⟨rfl,rfl,rfl,rfl⟩
theorem Jo:∀ro ys T K,K7 f jk (Do f) ro ys T K→VCx prog ae ro xM ys T K:=by
 rintro ro ys T K ⟨⟨rfl,rfl,hp⟩,hk⟩
 refine (Dl (iD hp) rfl f).mono ?_
 rintro r T' ⟨rfl,rfl⟩
 exact hk _ _ ⟨rfl,rfl⟩
theorem Jp:∀ro ys T K,I7 jk Dp ro ys T K→VCx prog ae ro xh ys T K:=by
 intro ro ys T K h
 unfold I7 at h
 split at h
 ·obtain ⟨⟨rfl,hp⟩,hk⟩:=h
  refine (F0 (iD hp) rfl _).mono ?_
  rintro r T' ⟨rfl,rfl⟩
  exact hk _ rfl
 ·exact h.elim
theorem Jq:∀ro ys T K,I8 jk ye ro ys T K→VCx prog ae ro Cc ys T K:=by
 intro ro ys T K h
 unfold I8 at h
 split at h
 ·obtain ⟨⟨rfl,hp⟩,hk⟩:=h
  refine (KB (iD hp) rfl _).mono ?_
  rintro r T' ⟨rfl,rfl⟩
  exact hk _ _ ⟨rfl,rfl⟩
 ·exact h.elim
theorem Jr:∀ro ys T K,K8 jk Dq ro ys T K→VCx prog ae ro xi ys T K:=by
 rintro ro ys T K ⟨⟨rfl,rfl,hp⟩,hk⟩
 refine (F1 (iD hp) rfl).mono ?_
 rintro r T' ⟨rfl,rfl⟩
 exact hk _ rfl
theorem Js:∀ro ys T K,K9 jk yf ro ys T K→VCx prog ae ro xj ys T K:=by
 rintro ro ys T K ⟨⟨rfl,rfl,hp⟩,hk⟩
 refine (F2 (iD hp) rfl).mono ?_
 rintro r T' ⟨rfl,rfl⟩
 exact hk _ rfl
theorem Jt:∀ro ys T K,La now jk (yg now) ro ys T K→VCx prog ae ro u7 ys T K:=by
 rintro ro ys T K ⟨⟨rfl,rfl,hp⟩,hk⟩
 refine (F3 (iD hp) rfl now).mono ?_
 rintro r T' ⟨rfl,rfl⟩
 exact hk _ _ ⟨rfl,rfl⟩
def Dr (key:Int)(L:Bs)(T:VT):Prop:=∃(a b:VO) (y:Nat→VO) (z1 z2 z3:VO) (xv:Bk) (l:List Bk),T=rT a b y [z1,z2,z3,.cells (aA xv)]∧L=l.map aA∧l.length≤16∧xv∈l∧(∀v∈l,bx key v.1 v.2.2≤bx key xv.1 xv.2.2)∧∀e,VT.keep (rT a b y [z1,z2,z3,.cells (aA xv),e]) 121 0=rT a b y [z1,z2,z3,.cells (aA xv)]
theorem F5:aT prog ae (aE [(K5,E3 (Ji bx))]):=aJ λp hp=>by
 obtain rfl:=List.mem_singleton.1 hp
 refine Hk bc λys y hy=> ?_
 unfold Ji at hy
 split at hy
 ·injection hy with hy;subst hy
  exact ⟨rfl,λ_ _=>rfl,VCx.ofCalls rfl (VCalls.of_eq (us:= [_,_,_]) (λw=>Hd _ _ _ w) _) λ_ _=>rfl⟩
 ·cases hy
theorem G7 (key:Int)(L:Bs):∀T,Dr key L T→∀K:KX,K .normal (ax 164 vm (lw key true L L.length)) T []→VWx prog ae none 0 (av prog oe 0) (ax 164 vm (lw key false L 0)) T [] K:=by
 rintro T ⟨a,b,y,z1,z2,z3,xv,l,rfl,rfl,hl,hx,hmax,hk⟩ K hK
 obtain ⟨p,hp⟩:=List.mem_iff_getElem?.1 hx
 have hpl:p<l.length:=(List.getElem?_eq_some_iff.1 hp).1
 have hlen:(l.map aA).length=l.length:=length_map _
 refine fc (ι:=Nat × Bool) (f:=oe) (id:=0) (by kernel_rfl) 164 vm (λs=>l.length-s.1) (λs=>lw key s.2 (l.map aA) s.1) (λ_=>rT a b y [z1,z2,z3,.cells (aA xv)]) (λs=>s.1≤l.length∧(p<s.1→s.2=true)) 121 0 (λ_ _=>⟨by rw [s9];exact le_refl _,le_refl _⟩)
  (λe vs T=>e=.normal∧vs=lw key true (l.map aA) (l.map aA).length∧T=rT a b y [z1,z2,z3,.cells (aA xv)]) (λs hs=> ?_) (0,false) ⟨Nat.zero_le _,λh=>absurd h (Nat.not_lt_zero _)⟩ K (λe vs T hq=> ?_)
 ·obtain ⟨j,q⟩:=s
  obtain ⟨hj,hq⟩:=hs
  simp only at hj hq
  by_cases hlt:j<l.length
  ·obtain ⟨v,hv⟩:∃v,l[j]?=some v:=⟨_,List.getElem?_eq_getElem hlt⟩
   have hwr:=fL j (by omega)
   have hv':(l.map aA)[j]?=some (aA v):=by rw [List.getElem?_map,hv];rfl
   have hle:decide (bx key v.1 v.2.2>bx key xv.1 xv.2.2)=false:=decide_eq_false (by have:=hmax v (List.mem_of_getElem? hv);omega)
   have ren:∀q' j',ay (ai 121) (ai 0) (lw key q' (l.map aA) j')=lw key q' (l.map aA) j':=λq' j'=>by
    simp only [lw,ay,TV.ren,pG,Tok.ren,jh (show 120<121 by decide)]
   have fin:∀q',(p<j+1→q'=true)→qb 164 0 (λs:Nat × Bool=>l.length-s.1) (λs=>lw key s.2 (l.map aA) s.1) (λ_=>rT a b y [z1,z2,z3,.cells (aA xv)]) (λs=>s.1≤l.length∧(p<s.1→s.2=true)) 121 0 (j,q) (λe vs T=>e=.normal∧vs=lw key true (l.map aA) (l.map aA).length∧T=rT a b y [z1,z2,z3,.cells (aA xv)]) .normal (lw key q' (l.map aA) (wrap i64 ((j:Int)+1))) (rT a b y [z1,z2,z3,.cells (aA xv),.cells (aA v)]) [] 164:=λq' hq'=>by
    refine ⟨rfl,rfl,(j+1,q'),⟨hlt,hq'⟩,by simp only;omega,.inr ⟨hk _,?_⟩⟩
    rw [hwr]
    exact ren _ _
   refine cj ah ag F5 ak (Dm a b y z1 z2 z3 bx key q (l.map aA) xv v j _) ?_
   refine aL (decide_eq_true (by rw [hlen];omega)) ⟨nM rfl rfl (Int.natCast_nonneg _) (by rw [Int.toNat_natCast];exact hv'),?_⟩
   refine aM (λhb=>⟨⟨rfl,rfl,rfl,rfl,trivial⟩,az hle (fin true λ_=>rfl)⟩) (λhb=>⟨⟨rfl,rfl,rfl,rfl,trivial⟩,az hle (fin _ λhpj=> ?_)⟩)
   rcases Nat.lt_or_ge p j with h | h
   ·rw [hq h] at hb;cases hb
   ·obtain rfl:p=j:=by omega
    rw [hv] at hp
    injection hp with hp
    rw [hp]
    exact (Lv xv xv).trans (decide_eq_true rfl)
  ·obtain rfl:j=l.length:=by omega
   refine cj ah ag F5 ak (Dm a b y z1 z2 z3 bx key q (l.map aA) xv (0,0,0) l.length _) ?_
   refine az (decide_eq_false (by rw [hlen];omega)) ⟨rfl,rfl,rfl,?_,rfl⟩
   rw [hq hpl]
   simp only [lw,hlen]
 ·obtain ⟨rfl,rfl,rfl⟩:=hq
  exact hK
theorem KF (f:Fl):∀ro ys T K,fu [.agg (bo f)] (.val (.int .u64 (ji f))) ro ys T K→VCx prog ae ro K4 ys T K:=
 oZ bc rfl (λ_ _=>rfl) (VCx.ofCalls rfl (VCalls.of_grT (us:= [.agg #[.int .i64 f.1,.int .u32 f.2.1,.int .u32 f.2.2.1,.int .i64 f.2.2.2.1,.int .i64 f.2.2.2.2]]) rfl (λw=>Lh f.1 f.2.1 f.2.2.1 f.2.2.2.1 f.2.2.2.2 _ _ _ _ _ rfl rfl rfl rfl rfl w) _) λ_ _=>rfl)
structure WdF (w:Wd):Prop where
 B:∃l:List Bk,w.B=l.map aA
 U:∃l:List Bool,w.U=l.map λb=> [.val (.bool b)]
 D:∃l:List Bool,w.D=l.map λb=> [.val (.bool b)]
 S:∃l:List Bk,w.S=l.map aA
 C:∃l:List Int,w.C=l.map λz=> [.val (.int .i64 z)]
 F:∃l:List Fl,w.F=l.map bo
 W:∃l:List Int,w.W=l.map λz=> [.val (.int .i64 z)]
theorem WdF.ren {w:Wd}(h:WdF w)(f g:Nat→Option Nat):ay f g w.cells=w.cells:=by
 obtain ⟨lB,hB⟩:=h.B
 obtain ⟨lU,hU⟩:=h.U
 obtain ⟨lD,hD⟩:=h.D
 obtain ⟨lS,hS⟩:=h.S
 obtain ⟨lC,hC⟩:=h.C
 obtain ⟨lF,hF⟩:=h.F
 obtain ⟨lW,hW⟩:=h.W
 simp only [Wd.cells,ay,TV.ren,Tok.ren,hB,hU,hD,hS,hC,hF,hW,eR aA (λ_ _ _=>rfl),eR bo (λ_ _ _=>rfl),eR (λb:Bool=> [TV.val (.bool b)]) (λ_ _ _=>rfl),eR (λz:Int=> [TV.val (.int .i64 z)]) (λ_ _ _=>rfl)]
def og (w:Wd):Bool:=decide (w.B.length≤40)&&(decide (w.S.length≤40)&&decide (w.F.length≤100))
theorem WdF.ok {w:Wd}(h:WdF w)(hl:og w=true):mw w:=by
 simp only [og,Bool.and_eq_true,decide_eq_true_eq] at hl
 obtain ⟨l1,l2,l3⟩:=hl
 obtain ⟨lB,hB⟩:=h.B
 obtain ⟨lS,hS⟩:=h.S
 obtain ⟨lF,hF⟩:=h.F
 exact ⟨⟨lB,hB,by rw [hB,length_map] at l1;exact l1⟩,h.U,h.D,⟨lS,hS,by rw [hS,length_map] at l2;exact l2⟩,h.C,⟨lF,hF,by rw [hF,length_map] at l3;exact l3⟩,h.W⟩
theorem Ju (w:Wd):VCx prog ae 0 Dk [.agg w.cells] ⟨[],[]⟩ λr T'=>r=.val (.bool (og w))∧T'=⟨[],[]⟩:=by
 refine VCx.keepQ 0 0 (le_refl _) (le_refl _) (an ah ag aw ak (KC w _) ?_)
 have cz:∀{a b:Nat},decide ((a:Int)≤(b:Int))=decide (a≤b):=λ{a b}=>by
  by_cases h:a≤b
  ·rw [decide_eq_true h,decide_eq_true (by omega)]
  ·rw [decide_eq_false h,decide_eq_false (by omega)]
 refine aM (λh1=>aM (λh2=>⟨?_,rfl⟩) (λh2=>⟨?_,rfl⟩)) (λh1=>⟨?_,rfl⟩)
 ·have h1':=cz.symm.trans h1
  have h2':=cz.symm.trans h2
  simp only [og,h1',h2',Bool.true_and]
  exact congrArg (λq=>TV.val (.bool q)) cz
 ·have h1':=cz.symm.trans h1
  have h2':=cz.symm.trans h2
  simp only [og,h1',h2',Bool.true_and,Bool.false_and];rfl
 ·have h1':=cz.symm.trans h1
  simp only [og,h1',Bool.false_and];rfl
theorem F6 (hw:WdF w):∀ro ys T K,fu [.agg w.cells] (.val (.bool (og w))) ro ys T K→VCx prog ae ro Dk ys T K:=
 oZ bc (by simp only [ay,TV.ren,hw.ren]) (λ_ _=>rfl) (Ju w)
theorem Jv (hliv:∀ro ys T K,sD ro ys T K→VCx prog ae ro ER ys T K)(hwf:WdF w)(hw:mw w):aT prog ae (Lc (og w) w f now tun (ji f) (λy=>jk (rT (.cells w.cells) (.cells (dR f now tun)) y []).objs) jk (Dn f now tun) (Do f) Dp ye Dq yf (yg now)):=aJ λp hp=>by
 simp only [mem_cons,not_mem_nil,or_false] at hp
 rcases hp with rfl | rfl | rfl | rfl | rfl | rfl | rfl | rfl | rfl | rfl | rfl
 ·exact hliv
 ·exact F6 hwf
 ·exact Jm hw _ (G6 f now tun) rfl
 ·exact Jn
 ·exact Jo
 ·exact Jp
 ·exact Jq
 ·exact Jr
 ·exact KF f
 ·exact Js
 ·exact Jt
theorem Jw (key:Int):dS prog ae (Lb key (Dr key) (av prog oe 0)):=cn λp hp=>by
 obtain rfl:=List.mem_singleton.1 hp
 intro rd ro σ T D K h
 have h':I9 key (Dr key) rd ro σ T D K:=h
 clear h
 unfold I9 at h'
 split at h'
 ·rename_i k p q L l j he
  obtain ⟨⟨h1,h2,h3,h4,rfl,rfl,rfl,rfl,rfl,hT⟩,hK⟩:=h'
  exact nS (vs0:=lw k false L 0) (Pre:=Dr k L) (R:=λT K=>K .normal (ax 164 vm (lw k true L L.length)) T []) (G7 k L) rd ro σ T D K ⟨⟨h1,h2,h3,h4,he,hT⟩,hK⟩
 ·exact h'.elim
end
end
set_option maxRecDepth 100000
section
open Go.RowKit Go.Maps Go.Sort
theorem Be:oU prog ae c9 6 []=True:=by kernel_rfl
theorem zI:VCx prog ae 0 6 [] ⟨[],[]⟩ eQ:=AD ah ag aw Be trivial
theorem Jx {w:Wd}(hwf:WdF w)(f:Fl)(now:Int)(tun:Bool):VCx prog ae 0 oe [.agg w.cells,.agg (dR f now tun)] ⟨[],[]⟩ eQ:=by
 cases hl:og w with
 |true=>
  have hw:=hwf.ok hl
  refine an ah ag (Jv (wR bc zI) hwf hw) (Jw (ji f)) (KE (og w) w f now tun (ji f) _ jk (Dn f now tun) (Do f) Dp ye Dq yf (yg now) (Dr (ji f)) eQ) ?_
  refine ⟨rfl,az (by rw [hl];rfl) ⟨⟨rfl,rfl,rfl⟩,λy hy=> ?_⟩⟩
  have hA:=iD hy
  refine ⟨⟨rfl,rfl,hy⟩,λk b s n hW=>⟨⟨rfl,rfl,hy⟩,λen ok hF=> ?_⟩⟩
  have hW':Dn f now tun (rT (.cells w.cells) (.cells (dR f now tun)) y []).objs k b s n:=hW
  have hF':Do f (rT (.cells w.cells) (.cells (dR f now tun)) y []).objs en ok:=hF
  generalize hi:eB (rT (.cells w.cells) (.cells (dR f now tun)) y []).objs=i at hA
  unfold Dn at hW'
  unfold Do at hF'
  rw [hi] at hW' hF'
  obtain ⟨hk1,hb1,hs1,hn1⟩:=hW'
  obtain ⟨he1,ho1⟩:=hF'
  have hnd:=hA.nd
  have kp:∀z1 z2 z3 z4:VO,(∀g h,z2.ren g h=z2)→(∀g h,z3.ren g h=z3)→(∀g h,z4.ren g h=z4)→z1=bO→∀e,VT.keep (rT (.cells w.cells) (.cells (dR f now tun)) y [z1,z2,z3,z4,e]) 121 0=rT (.cells w.cells) (.cells (dR f now tun)) y [z1,z2,z3,z4]:=λz1 z2 z3 z4 h2 h3 h4 h1 e=>by
   rw [F4 hA.hA,F4 hA.hA]
   refine yd (y:= [z1,z2,z3,z4]) hA.fl hA.fix (λz hz=> ?_) [e] 121 rfl
   simp only [mem_cons,not_mem_nil,or_false] at hz
   rcases hz with rfl | rfl | rfl | rfl
   ·rw [h1];rfl
   ·exact h2 _ _
   ·exact h3 _ _
   ·exact h4 _ _
  have g1:(jQ i f).2=(ok&&(bL i.S en.2.1).2.1):=by rw [he1,ho1];rfl
  --where nothing is known
  have loc:(jQ i f).2=false→jX i.n i.S=true→∃bst,gF (ji f) (cF i.S)=some bst∧k=1∧b=bst.1∧n=false∧bL i.S bst.1=((bL i.S bst.1))∧(bL i.S bst.1).1=bst∧fM i.S bst.1=true∧bst∈cF i.S∧∀v∈cF i.S,bx (ji f) v.1 v.2.2≤bx (ji f) bst.1 bst.2.2:=λh1 hq=>by
   cases hp:gF (ji f) (cF i.S) with
   |none=>
    obtain ⟨b0,hb0,hb2⟩:=Hz hnd hq
    exact absurd hb2 (Cx hp b0 hb0)
   |some bst=>
    have h2:(l9 i f).2=true:=by simp only [l9,hp,hq];rfl
    have e2:jR i f now tun=(1,bst.1,0,false):=by
     unfold jR
     rw [h1,h2,cond_false,cond_true]
     simp only [l9,hp,getD_some]
    obtain ⟨q1,q2,q3⟩:=Cw hp
    obtain ⟨mb,r1,r2,r3⟩:=(Ej hnd).1 q1
    have r4:gi bh i.S bst.1=some mb:=by rw [←r2];exact pj hnd r1
    refine ⟨bst,rfl,by rw [hk1,e2],by rw [hb1,e2],by rw [hn1,e2],rfl,?_,?_,q1,λv hv=> ?_⟩
    ·simp only [bL,r4,getD_some,r2]
    ·simp only [fM,r4,Option.isSome_some]
    ·by_cases h0:0<v.2.2
     ·exact q3 v hv h0
     ·exact Jk _ _ _ h0
  have far:(jQ i f).2=false→jX i.n i.S=false→jR i f now tun=bif (iB i now tun).2 then (iB i now tun).1 else (0,0,0,false):=λh1 hq=>by
   have h2:(l9 i f).2=false:=by simp only [l9,hq,Bool.and_false]
   unfold jR
   rw [h1,h2,cond_false,cond_false]
  have fin:(jQ i f).2=false→∀u,Dq (rT (.cells w.cells) (.cells (dR f now tun)) y []).objs u→u=jX i.n i.S:=λ_ u hu=>by unfold Dq at hu;rw [hi] at hu;exact hu
  refine aM (λhk=>⟨⟨rfl,hy⟩,λu hu=> ?_⟩) (λhk=> ?_)
  ·have hu':Dp (rT (.cells w.cells) (.cells (dR f now tun)) y []).objs en.2.1 u:=hu
   unfold Dp at hu'
   rw [hi] at hu'
   refine aM (λhu1=> ?_) (λhu0=> ?_)
   ·have h1:(jQ i f).2=true:=by rw [g1,hk,←hu',hu1];rfl
    have e2:jR i f now tun=(1,en.2.1,0,true):=by
     unfold jR
     rw [h1,cond_true,he1];rfl
    rw [e2] at hk1 hb1 hn1
    exact aL (by rw [hk1];exact (pH _ _ _).trans (decide_eq_true rfl)) (aL (by rw [hb1];exact (pH _ _ _).trans (decide_eq_true rfl)) (aL hn1 trivial))
   ·have h1:(jQ i f).2=false:=by rw [g1,hk,←hu',hu0];rfl
    refine ⟨⟨rfl,rfl,hy⟩,λq hq=> ?_⟩
    have hq':=fin h1 q hq
    refine aM (λhqt=>⟨rfl,⟨rfl,hy⟩,λv ha hg=> ?_⟩) (λhqf=>⟨⟨rfl,rfl,hy⟩,λv sb hB=> ?_⟩)
    ·obtain ⟨bst,_,k1,b1,n1,_,f1,f2,f3,f4⟩:=loc h1 (by rw [←hq',hqt])
     have hg':ye (rT (.cells w.cells) (.cells (dR f now tun)) y []).objs b v ha:=hg
     unfold ye at hg'
     rw [hi,b1,f1,f2] at hg'
     obtain ⟨rfl,rfl⟩:=hg'
     refine az (by rw [k1];exact (Jj _ _ _).trans (by decide)) (az n1 (az rfl ⟨⟨rfl,rfl,hy⟩,λL hL=>⟨rfl,⟨rfl,rfl,rfl,rfl,rfl,rfl,rfl,rfl,rfl,?_⟩,trivial⟩⟩))
     have hL':yf (rT (.cells w.cells) (.cells (dR f now tun)) y []).objs L:=hL
     unfold yf at hL'
     rw [hi] at hL'
     exact ⟨_,_,y,bO,.cells (jO k b s n),.cells (aP en),v,cF i.S,rfl,hL',rH hA.few,f3,f4,kp _ _ _ _ (λ_ _=>rfl) (λ_ _=>rfl) (λ_ _=>rfl) rfl⟩
    ·have e2:=far h1 (by rw [←hq',hqf])
     have hB':yg now (rT (.cells w.cells) (.cells (dR f now tun)) y []).objs v sb:=hB
     unfold yg at hB'
     rw [hi] at hB'
     obtain ⟨hv,hsb⟩:=hB'
     have zero:(iB i now tun).2=false→k=0∧b=0∧s=0∧n=false:=λh3=>by
      rw [h3,cond_false] at e2
      rw [hk1,hb1,hs1,hn1,e2]
      exact ⟨rfl,rfl,rfl,rfl⟩
     refine aM (λh4=>aM (λh5=> ?_) (λh5=> ?_)) (λh4=> ?_)
     ·have h3:(iB i now tun).2=true:=by simp only [iB,←hsb,h4,h5];rfl
      rw [h3,cond_true] at e2
      rw [e2] at hk1 hb1 hs1
      exact aL (by rw [hk1];exact (pH _ _ _).trans (decide_eq_true rfl)) (aL (by rw [hs1,hv];exact (pH _ _ _).trans (decide_eq_true rfl)) (aL (by rw [hb1];exact (pH _ _ _).trans (decide_eq_true rfl)) trivial))
     ·obtain ⟨rfl,rfl,rfl,rfl⟩:=zero (by simp only [iB,h5,Bool.and_false])
      exact aL (by kernel_rfl) trivial
     ·obtain ⟨rfl,rfl,rfl,rfl⟩:=zero (by simp only [iB,←hsb,h4,Bool.false_and])
      exact aL (by kernel_rfl) trivial
  ·have h1:(jQ i f).2=false:=by rw [g1,hk];rfl
   refine ⟨⟨rfl,rfl,hy⟩,λq hq=> ?_⟩
   have hq':=fin h1 q hq
   refine aM (λhqt=>⟨rfl,⟨rfl,hy⟩,λv ha hg=> ?_⟩) (λhqf=>⟨⟨rfl,rfl,hy⟩,λv sb hB=> ?_⟩)
   ·obtain ⟨bst,_,k1,b1,n1,_,f1,f2,f3,f4⟩:=loc h1 (by rw [←hq',hqt])
    have hg':ye (rT (.cells w.cells) (.cells (dR f now tun)) y []).objs b v ha:=hg
    unfold ye at hg'
    rw [hi,b1,f1,f2] at hg'
    obtain ⟨rfl,rfl⟩:=hg'
    refine az (by rw [k1];exact (Jj _ _ _).trans (by decide)) (az n1 (az rfl ⟨⟨rfl,rfl,hy⟩,λL hL=>⟨rfl,⟨rfl,rfl,rfl,rfl,rfl,rfl,rfl,rfl,rfl,?_⟩,trivial⟩⟩))
    have hL':yf (rT (.cells w.cells) (.cells (dR f now tun)) y []).objs L:=hL
    unfold yf at hL'
    rw [hi] at hL'
    exact ⟨_,_,y,bO,.cells (jO k b s n),.cells (aP en),v,cF i.S,rfl,hL',rH hA.few,f3,f4,kp _ _ _ _ (λ_ _=>rfl) (λ_ _=>rfl) (λ_ _=>rfl) rfl⟩
   ·have e2:=far h1 (by rw [←hq',hqf])
    have hB':yg now (rT (.cells w.cells) (.cells (dR f now tun)) y []).objs v sb:=hB
    unfold yg at hB'
    rw [hi] at hB'
    obtain ⟨hv,hsb⟩:=hB'
    have zero:(iB i now tun).2=false→k=0∧b=0∧s=0∧n=false:=λh3=>by
     rw [h3,cond_false] at e2
     rw [hk1,hb1,hs1,hn1,e2]
     exact ⟨rfl,rfl,rfl,rfl⟩
    refine aM (λh4=>aM (λh5=> ?_) (λh5=> ?_)) (λh4=> ?_)
    ·have h3:(iB i now tun).2=true:=by simp only [iB,←hsb,h4,h5];rfl
     rw [h3,cond_true] at e2
     rw [e2] at hk1 hb1 hs1
     exact aL (by rw [hk1];exact (pH _ _ _).trans (decide_eq_true rfl)) (aL (by rw [hs1,hv];exact (pH _ _ _).trans (decide_eq_true rfl)) (aL (by rw [hb1];exact (pH _ _ _).trans (decide_eq_true rfl)) trivial))
    ·obtain ⟨rfl,rfl,rfl,rfl⟩:=zero (by simp only [iB,h5,Bool.and_false])
     exact aL (by kernel_rfl) trivial
    ·obtain ⟨rfl,rfl,rfl,rfl⟩:=zero (by simp only [iB,←hsb,h4,Bool.false_and])
     exact aL (by kernel_rfl) trivial
 |false=>
  have hC:aT prog ae (Lf (og w) w):=aJ λp hp=>by
   simp only [mem_cons,not_mem_nil,or_false] at hp
   rcases hp with rfl | rfl | rfl
   ·exact wR bc zI
   ·exact F6 hwf
   ·exact λ_ _ _ _ h=>h.elim
  refine an ah ag hC ak (KD (og w) w f now tun eQ) ?_
  exact ⟨rfl,aL (by rw [hl];rfl) trivial⟩
end
set_option maxRecDepth 100000
section
open Go.ChangeShapes Go.WideShapes Go.ChangeAt Go.RowKit Go.Joins Go.Deep
theorem F7 {α:Type}(c:α→List TV):∀l:List (List TV),(∀e∈l,∃a,e=c a)→∃l':List α,l=l'.map c
 |[],_=>⟨[],rfl⟩
 |e::l,h=>by
  obtain ⟨a,rfl⟩:=h e List.mem_cons_self
  obtain ⟨l',rfl⟩:=F7 c l λe' he'=>h e' (List.mem_cons_of_mem _ he')
  exact ⟨a::l',rfl⟩
def ET:List SH:= [.int .i64,.int .u32,.int .i64]
def Jy:List SH:= [.int .i64,.int .u32,.int .u32,.int .i64,.int .i64]
def Jz:List SH:= [.int .i64,.slice ET,.slice [.bool],.slice [.bool],.slice ET,.slice [.int .i64],.slice Jy,.slice [.int .i64]]
def JA:List SH:= [.int .i64,.int .u32,.int .u32,.int .i64,.int .i64,.int .i64,.bool]
theorem F8 {e:List TV}(h:cU [.int .i64] e):∃z:Int,e= [.val (.int .i64 z)]:=by
 obtain ⟨x,r,rfl,h1,h2⟩:=bb h
 obtain rfl:=iv h2
 obtain ⟨z,rfl,_⟩:=cw h1
 exact ⟨z,rfl⟩
theorem F9 {e:List TV}(h:cU [.bool] e):∃z:Bool,e= [.val (.bool z)]:=by
 obtain ⟨x,r,rfl,h1,h2⟩:=bb h
 obtain rfl:=iv h2
 obtain ⟨z,rfl⟩:=uN h1
 exact ⟨z,rfl⟩
theorem Ds {e:List TV}(h:cU ET e):∃b:Bk,e=aA b:=by
 obtain ⟨x1,r,rfl,h1,h⟩:=bb h
 obtain ⟨x2,r,rfl,h2,h⟩:=bb h
 obtain ⟨x3,r,rfl,h3,h⟩:=bb h
 obtain rfl:=iv h
 obtain ⟨a,rfl,_⟩:=cw h1
 obtain ⟨b,rfl,_⟩:=cw h2
 obtain ⟨c,rfl,_⟩:=cw h3
 exact ⟨(a,b,c),rfl⟩
theorem JB {e:List TV}(h:cU Jy e):∃f:Fl,e=bo f:=by
 obtain ⟨x1,r,rfl,h1,h⟩:=bb h
 obtain ⟨x2,r,rfl,h2,h⟩:=bb h
 obtain ⟨x3,r,rfl,h3,h⟩:=bb h
 obtain ⟨x4,r,rfl,h4,h⟩:=bb h
 obtain ⟨x5,r,rfl,h5,h⟩:=bb h
 obtain rfl:=iv h
 obtain ⟨a,rfl,_⟩:=cw h1
 obtain ⟨b,rfl,_⟩:=cw h2
 obtain ⟨c,rfl,_⟩:=cw h3
 obtain ⟨d,rfl,_⟩:=cw h4
 obtain ⟨g,rfl,_⟩:=cw h5
 exact ⟨(a,b,c,d,g),rfl⟩
theorem ik {α:Type}{es:List SH}{c:α→List TV}{x:TV}(hc:∀e,cU es e→∃a,e=c a)(h:SH.Fits (.slice es) x):∃l:List α,x=.vec es.length (l.map c) .none:=by
 obtain ⟨l,rfl,_,hl⟩:=AE h
 obtain ⟨l',rfl⟩:=F7 c l λe he=>hc e (hl e he)
 exact ⟨l',rfl⟩
theorem JC {xs:List TV}(h:cU Jz xs):∃w:Wd,xs=w.cells∧WdF w:=by
 obtain ⟨x1,r,rfl,h1,h⟩:=bb h
 obtain ⟨x2,r,rfl,h2,h⟩:=bb h
 obtain ⟨x3,r,rfl,h3,h⟩:=bb h
 obtain ⟨x4,r,rfl,h4,h⟩:=bb h
 obtain ⟨x5,r,rfl,h5,h⟩:=bb h
 obtain ⟨x6,r,rfl,h6,h⟩:=bb h
 obtain ⟨x7,r,rfl,h7,h⟩:=bb h
 obtain ⟨x8,r,rfl,h8,h⟩:=bb h
 obtain rfl:=iv h
 obtain ⟨p,rfl,_⟩:=cw h1
 obtain ⟨lB,rfl⟩:=ik (c:=aA) (λe he=>Ds he) h2
 obtain ⟨lU,rfl⟩:=ik (c:=λb:Bool=> [TV.val (.bool b)]) (λe he=>F9 he) h3
 obtain ⟨lD,rfl⟩:=ik (c:=λb:Bool=> [TV.val (.bool b)]) (λe he=>F9 he) h4
 obtain ⟨lS,rfl⟩:=ik (c:=aA) (λe he=>Ds he) h5
 obtain ⟨lC,rfl⟩:=ik (c:=λz:Int=> [TV.val (.int .i64 z)]) (λe he=>F8 he) h6
 obtain ⟨lF,rfl⟩:=ik (c:=bo) (λe he=>JB he) h7
 obtain ⟨lW,rfl⟩:=ik (c:=λz:Int=> [TV.val (.int .i64 z)]) (λe he=>F8 he) h8
 exact ⟨⟨p,_,_,_,_,_,_,_⟩,rfl,⟨lB,rfl⟩,⟨lU,rfl⟩,⟨lD,rfl⟩,⟨lS,rfl⟩,⟨lC,rfl⟩,⟨lF,rfl⟩,⟨lW,rfl⟩⟩
theorem G8 {xs:List TV}(h:cU JA xs):∃(f:Fl) (now:Int) (tun:Bool),xs=dR f now tun:=by
 obtain ⟨x1,r,rfl,h1,h⟩:=bb h
 obtain ⟨x2,r,rfl,h2,h⟩:=bb h
 obtain ⟨x3,r,rfl,h3,h⟩:=bb h
 obtain ⟨x4,r,rfl,h4,h⟩:=bb h
 obtain ⟨x5,r,rfl,h5,h⟩:=bb h
 obtain ⟨x6,r,rfl,h6,h⟩:=bb h
 obtain ⟨x7,r,rfl,h7,h⟩:=bb h
 obtain rfl:=iv h
 obtain ⟨a,rfl,_⟩:=cw h1
 obtain ⟨b,rfl,_⟩:=cw h2
 obtain ⟨c,rfl,_⟩:=cw h3
 obtain ⟨d,rfl,_⟩:=cw h4
 obtain ⟨g,rfl,_⟩:=cw h5
 obtain ⟨n,rfl,_⟩:=cw h6
 obtain ⟨t,rfl⟩:=uN h7
 exact ⟨(a,b,c,d,g),n,t,rfl⟩
theorem G9 {H:Type}{enc:TypeId × Value→H}{w:World}{b0 base:Nat}{held:Bool}{v:Value}{d:DataW H}{p:List MemPlace}
  (hv:okWide prog w .any b0 28 v) (h:Trod enc prog w base (λ_=>true) held 28 v d p):∃m:Wd,VR (jT w) w (.agg m.cells) v∧WdF m:=by
 obtain ⟨xs,h1,h2⟩:=oX (n:=9) (ss:=Jz) (by kernel_rfl) Tryz.underlying28 hv h
 obtain ⟨m,rfl,hm⟩:=JC h2
 exact ⟨m,h1,hm⟩
theorem EU {H:Type}{enc:TypeId × Value→H}{w:World}{b0 base:Nat}{held:Bool}{v:Value}{d:DataW H}{p:List MemPlace}
  (hv:okWide prog w .any b0 33 v) (h:Trod enc prog w base (λ_=>true) held 33 v d p):∃(f:Fl) (now:Int) (tun:Bool),VR (jT w) w (.agg (dR f now tun)) v:=by
 obtain ⟨xs,h1,h2⟩:=oX (n:=9) (ss:=JA) (by kernel_rfl) Tryz.underlying33 hv h
 obtain ⟨f,now,tun,rfl⟩:=G8 h2
 exact ⟨f,now,tun,h1⟩
theorem Ha (m:Wd)(hm:WdF m)(f:Fl)(now:Int)(tun:Bool)(v u:Value)(w:World)(hv:VR (jT w) w (.agg m.cells) v)(hu:VR (jT w) w (.agg (dR f now tun)) u):
  Calls prog 3 #[v,u] w λe w'=>e=.returned (.bool true)∧Gr w w':=
 VCx.top (us:= [v,u]) (Jx hm f now tun) w (VRs.cons hv (VRs.cons hu (VRs.nil _ _)))
end
section
open Go.ChangeShapes Go.WideShapes Go.ChangeAt Go.RowKit Go.Joins
theorem EV:ownKnob prog.godebug=none:=by kernel_rfl
theorem vn:laidOutB prog=true:=by kernel_rfl
end
section
open Go.ChangeShapes Go.WideShapes Go.ChangeAt Go.RowKit Go.Joins Go.Deep
theorem ol (os:Os)(started:os.Started)(H:Type)(enc:TypeId × Value→H):
  ReturnsInHanded {} checked os 3 .any (λw args=>(Rows.balanceRulesSpec.pre enc prog Tryz.f3 [] false w args∧laidMetH prog Rows.balanceRulesRow.laid w)∧sizedMet enc prog Tryz.f3 (ofChange Rows.balanceRulesSpec) false w args)
   (Rows.balanceRulesSpec.post enc prog Tryz.f3 false true false false):=by
 refine returnsInHanded_of_change_and (C:=checked) (X:=λw _=>laidMetH prog Rows.balanceRulesRow.laid w) (λ_ _ _ hh h=>h.of_heap hh) EV started (by kernel_rfl) func3
  (ChangeSpec.witness_shaped (enc:=enc) (C:=checked) (os:=os) (X:=λw _=>laidMetH prog Rows.balanceRulesRow.laid w) false (World.laidAll prog os Rows.balanceRulesRow.laid) #[.agg #[.int .i64 0,.slice none 0 0,.slice none 0 0,.slice none 0 0,.slice none 0 0,.slice none 0 0,.slice none 0 0,.slice none 0 0],.agg #[.int .i64 0,.int .u32 0,.int .u32 0,.int .i64 0,.int .i64 0,.int .i64 0,.bool false]] 8 (World.laidAll_os _ _ _)
   (World.shaped_of_ZipB (by kernel_rfl) (by kernel_rfl)) (by kernel_rfl) (by kernel_rfl) (by kernel_rfl)
   (by rw [MakeChecks.laidMetH_plain _ _ _ (by kernel_rfl)];exact laidMet_laidAll _ (by kernel_rfl) (by kernel_rfl))) ?_
 intro W base args ds gs before hval0 hW _ _ hL _
 have hval:∀(j:Nat) t v,Tryz.f3.params[j]?=some t→args[j]?=some v→okWide prog W .any base t v:=hval0
 have hW':=hW
 obtain ⟨p,q,hA0,hV,rfl,hfz,hnd⟩:=hW
 have hA:DataW.TrodAll enc prog W 0 (λ_=>true) true Tryz.f3.params.toList args.toList ds p:=hA0
 rw [params3] at hA hval
 obtain ⟨v0,vs0,d0,ds0,p0,q0,hargs,rfl,rfl,h0,r0⟩:=trodAll_cons hA
 obtain ⟨v1,vs1,d1,ds1,p1,q1,rfl,rfl,rfl,h1,r1⟩:=trodAll_cons r0
 obtain ⟨rfl,rfl,rfl⟩:=trodAll_nil r1
 obtain rfl:args= #[v0,v1]:=by cases args;simp_all
 obtain ⟨rfl,rfl⟩:=trodVars_none hV
 have lt0:∀x∈p0,x.block<W.heap.size:=by obtain ⟨m,hm⟩:=h0;exact trod_lt m _ _ _ hm
 have lt1:∀x∈p1,x.block<W.heap.size:=by obtain ⟨m,hm⟩:=h1;exact trod_lt m _ _ _ hm
 obtain ⟨x0,x0v,x0f⟩:=G9 (hval 0 28 v0 rfl rfl) h0
 obtain ⟨x1f,x1n,x1t,x1v⟩:=EU (hval 1 33 v1 rfl rfl) h1
 clear hA0 hval0
 refine (Ha x0 x0f x1f x1n x1t v0 v1 W x0v x1v).mono λe W' ⟨he,bel⟩=> ?_
 subst he
 exact ⟨_,rfl,_,_,_,[],_,[],hW',trodAll_mk1 (shut_bool Tryz.underlying4 _),(trodAll_cons_mk (Below.trod vn (by kernel_rfl) (of_decide_eq_true (by kernel_rfl)) h0 bel lt0) (trodAll_cons_mk (Below.trod vn (by kernel_rfl) (of_decide_eq_true (by kernel_rfl)) h1 bel lt1) trodAll_mk0)),rfl,Below.frame bel _,λh=>by cases h⟩
end
section
open Go
theorem fJ:pinned.checked=checked:=rfl
theorem gL:checked.prog=prog:=rfl
theorem rI {H:Type}(enc:TypeId × Value→H)(P:Program)(fn:Func):
 Rows.balanceRulesRow.pre enc P fn (ofChange Rows.balanceRulesSpec)=λw args=>(Rows.balanceRulesSpec.pre enc P fn [] false w args∧laidMetH P Rows.balanceRulesRow.laid w)∧sizedMet enc P fn (ofChange Rows.balanceRulesSpec) false w args:=rfl
set_option maxHeartbeats 10000000 in
theorem om:joinedFacts prog 3 Tryz.f3 Rows.balanceRulesSpec Rows.balanceRulesRow=true:=by
 unfold joinedFacts
 repeat' rw [Bool.and_eq_true]
 repeat' apply And.intro
 all_goals (as_aux_lemma=>kernel_rfl)
theorem pI:joinedFacts pinned.checked.prog 3 Tryz.f3 Rows.balanceRulesSpec Rows.balanceRulesRow=true:=by
 rw [fJ,gL];exact om
theorem qk:Tryz.f3.isInstance pinned.checked.prog Rows.balanceRulesRow.origin Rows.balanceRulesRow.targs:=(of_decide_eq_true (by kernel_rfl))
theorem ql:Tryz.f3.isWrapper pinned.checked.prog Rows.balanceRulesRow.wrapper Rows.balanceRulesRow.mainSum:=by unfold Func.isWrapper;first | (rw [if_pos (by decide+kernel)];kernel_rfl) | (rw [if_neg (by decide+kernel)];exact ⟨rfl,rfl⟩)
theorem j6:pinned.checked.prog.funcNamed Rows.balanceRulesRow.func=some 3:=by kernel_rfl
theorem ma:pinned.checked.prog.funcs[(3:Nat)]?=some Tryz.f3:=by
 rw [fJ,gL];exact func3
theorem qm (os:Os)(started:os.Started)(H:Type)(enc:TypeId × Value→H):
  ReturnsInHanded Rows.balanceRulesRow.assume pinned.checked os 3 .any (Rows.balanceRulesRow.pre enc pinned.checked.prog Tryz.f3 (ofChange Rows.balanceRulesSpec))
   (Rows.balanceRulesSpec.post enc pinned.checked.prog Tryz.f3 Rows.balanceRulesRow.apart Rows.balanceRulesRow.fresh Rows.balanceRulesRow.handsOn Rows.balanceRulesRow.again):=by
 rw [rI,fJ,gL]
 exact ol os started H enc
theorem balanceRules_holds:Rows.BalanceRulesSaid:=
 OpenClaim.holds_of_wide 3 Tryz.f3 rfl rfl rfl rfl rfl rfl rfl ⟨rfl,rfl,rfl,rfl,rfl⟩ rfl rfl rfl rfl rfl j6 ma pI qk ql
  (λos started H enc _=>qm os started H enc)
theorem ta:Rows.balanceRulesRow.wfByText (ofChange Rows.balanceRulesSpec)=true:=by kernel_rfl
theorem qn:pinned.checked.prog.mainIs=some (true,("c7b105b1b4cc57d57e1f0b07528c3384149b7738f567cb76d0a9543672c9a822" :String).toList):=by kernel_rfl
theorem qo:false=Rows.balanceRulesRow.goesBy pinned.checked.prog:=by kernel_rfl
theorem pJ:false=pinned.checked.prog.looks []:=by kernel_rfl
theorem pK:([28,33].all λu=> !Tryz.pinned.checked.prog.wantsStandIn u)=true:=by kernel_rfl
theorem tc:Tryz.f3.params= #[28,33]:=params3
theorem balanceRulesCard_holds:Rows.BalanceRulesCardSaid:=
 Claim7.holds_tied_plain_at .later [] [.data,.data,.data] true (true, "c7b105b1b4cc57d57e1f0b07528c3384149b7738f567cb76d0a9543672c9a822") false
  balanceRules_holds (λ_ h=>by cases h) ta (λ_ h=>by cases h) balanceRules_row_tie rfl ⟨rfl,rfl⟩ qn rfl
  (λf fn hf hfn=>by
   obtain rfl:f=3:=Option.some.inj (hf.symm.trans j6)
   obtain rfl:fn=Tryz.f3:=Option.some.inj (hfn.symm.trans ma)
   refine ⟨pJ,λj t ht=> ?_⟩
   rw [tc] at ht
   have hm:t∈ [28,33]:=by simpa using Array.mem_of_getElem? ht
   have:=List.all_eq_true.1 pK t hm
   simpa using this)
  qo
#print axioms balanceRulesCard_holds
end
end Go.Proofs.YtgboehkdijjnkaaGreatDoor