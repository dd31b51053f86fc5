/-Part 8 of the proof of balanceSticksCard_holds:StE,StC,StD ... No condition. -/
import Derived.ProofKit
import Derived.OpenShut
import Derived.Lib.SmallJoins
import Derived.LaidMore
import Derived.Lay
import Derived.LaidHandle
import Derived.ChangeVars
import Derived.JoinedOf
import Derived.Stop.Joined
import Derived.Test.YtgboehkdijjnkaaGreatDoorTie
import Derived.Test.YtgboehkdijjnkaaGreatDoorCards
import Derived.SevenTiedAt
import Derived.Test.YtgboehkdijjnkaaGreatDoorBy1
import Derived.Test.YtgboehkdijjnkaaGreatDoorBy2
import Derived.Test.YtgboehkdijjnkaaGreatDoorBy3
import Derived.Test.YtgboehkdijjnkaaGreatDoorBy4
import Derived.Test.YtgboehkdijjnkaaGreatDoorBy5
import Derived.Test.YtgboehkdijjnkaaGreatDoorBy6
import Derived.Test.YtgboehkdijjnkaaGreatDoorBy7
set_option maxRecDepth 100000
namespace Go.Proofs.YtgboehkdijjnkaaGreatDoor
open Go.RowKit
open Go.BinOp (eql neq)
open _root_.Bool (and_eq_true)
open Go.DataW (Trod trod_lt)
open _root_.Int (tmod)
open Go.IntKind (i64 u8 wrap)
open _root_.List (ext_getElem? getElem?_append_left getElem?_drop getElem?_eq_none getElem?_range length length_append length_cons length_drop length_nil length_range map_nil mem_append mem_cons mem_map mem_range mem_singleton not_mem_nil toArray)
open _root_.Nat (le_refl le_succ lt_or_ge)
open Go.OpenSpec (ofChange)
open _root_.Option (getD_some map_some)
open _root_.Prod (fst snd)
open Go.Proofs.Tryz (checked func4 params4 prog)
open Go.Proofs.YtgboehkdijjnkaaGreatDoor.Tryz (pinned)
open Go.Value (okWide)
abbrev GK:=54
abbrev D4:=55
abbrev Ar:=17
abbrev rq:=4
def uY (T:VT)(a b:VO)(y:Nat→VO):VT:=rT a b y (T.objs.drop 117)
def sa (T:VT)(a b:VO)(y:Nat→VO)(e:VO):VT:=rT a b y (T.objs.drop 117++ [e])
def fg (T:VT)(a b:VO)(y:Nat→VO)(e:VO):VT:=rT a b y (match T.objs.drop 117 with
 |z::_::r=>z::e::r
 |z:: []=> [z,e]
 |[]=> [e])
def L3 (a b:VO)(f:Fl)(now:Int)(Pre W:VT→Prop):ba:=λro ys T K=>(ro=0∧ys= [.ptr 6 0,.agg (au f),.val (.int .i64 now)]∧Pre T)∧∀(c:Int) (q:Bool) (y':Nat→VO),W (uY T a b y')→K (.tup [.val (.int .i64 c),.val (.bool q)]) (uY T a b y')
def J4 (a b:VO)(f:Fl)(now:Int)(Pre:VT→Prop)(W:Int→VT→Prop):ba:=λro ys T K=>match ys with
 | .ptr 6 0::x:: .val (.int .i64 c):: .val (.int .i64 t):: []=>(ro=0∧x=.agg (au f)∧t=now∧Pre T)∧∀(en:En) (q:Bool) (y':Nat→VO) (e':VO),W c (sa T a b y' e')→K (.tup [.agg (aO en),.val (.bool q)]) (sa T a b y' e')
 |_=>aG 96 default ys
def L4 (a b:VO)(f:Fl)(Pre W:VT→Prop):ba:=λro ys T K=>(ro=0∧ys= [.ptr 6 0,.agg (au f)]∧Pre T)∧∀(q:Bool) (y':Nat→VO),W (uY T a b y')→K (.val (.bool q)) (uY T a b y')
def L5 (a b:VO)(f:Fl)(now k d s:Int)(n:Bool)(Pre PG WG:VT→Prop)(WP:Int→VT→Prop)(WR:VT→Prop):FuncId→Option ba:=az [(JK,fS [.ptr 6 0,.ptr 8 0,.ptr 11 0,.agg (au f),.val (.int .i64 now),.val (.bool false)] (.agg (dO k d s n)) Pre),(GK,L3 a b f now PG WG),(pG,J4 a b f now Pre WP),(D4,L4 a b f Pre WR)]
def D5 (a b:VO)(f:Fl)(Pre:Nat × Int→VT→Prop)(W:Nat × Int→Int→Int→Int→Bool→VT→Prop):ba:=λro ys T K=>match ys with
 | .ptr 6 0:: .ptr 8 0:: .ptr 11 0::x:: .val (.int .i64 _):: .val (.bool tun):: []=>∃g:Nat × Int,(ro=0∧x=.agg (au f)∧tun=false∧Pre g T)∧∀(k d s:Int) (n:Bool) (y':Nat→VO) (e':VO),W g k d s n (fg T a b y' e')→K (.agg (dO k d s n)) (fg T a b y' e')
 |_=>aG 96 default ys
def wd (a b:VO)(Pre:Int→Int→Bool→VT→Prop)(W:Int→Int→Bool→VT→Prop):ba:=λro ys T K=>match ys with
 | .ptr 8 0:: .val (.int .i64 z):: .val (.bool q):: []=>∃g:Int,(ro=0∧Pre g z q T)∧∀(c:Int) (y':Nat→VO) (e':VO),W g z q (fg T a b y' e')→K (.val (.int .i64 c)) (fg T a b y' e')
 |_=>aG 96 default ys
def GL (a b:VO)(Pre W:Int→VT→Prop):ba:=λro ys T K=>match ys with
 | .ptr 8 0:: .val (.int .i64 _):: .val (.int .i64 _):: []=>∃g:Int,(ro=0∧Pre g T)∧∀(c:Int) (y':Nat→VO) (e':VO),W g (fg T a b y' e')→K (.val (.int .i64 c)) (fg T a b y' e')
 |_=>aG 96 default ys
def we:List Nat:= [4,7,8,41,42,43]
def kf (L:Bs)(j:Int):List TV:= [.ptr 1 0,.ptr 117 0,.ptr 119 0,.vec 1 L .none,.val (.int .i64 L.length),.val (.int .i64 j)]
def J5 (a b:VO)(Lp:Int→Bs→VT→Prop)(W:Int→VT→Prop):bH:=λrd ro σ T D K=>match pick we σ with
 | .ptr p4 0:: .ptr p7 0:: .ptr p8 0:: .vec 1 L .none:: .val (.int .i64 l):: .val (.int .i64 j):: []=>∃g:Int,(rd=none∧ro=0∧D= []∧Nat.beq σ.length 117=true∧p4=1∧p7=117∧p8=119∧l=(L.length:Int)∧j=0∧Lp g L T)∧∀(y':Nat→VO) (e':VO),W g (fg T a b y' e')→K .normal (ay 117 we (kf L L.length)) (fg T a b y' e') []
 |_=>aG 97 default σ
def L6 (a b:VO)(lt:Bool)(w:Wd)(f:Fl)(R:(Nat→VO)→Prop)(PD:Nat × Int→VT→Prop)(WD:Nat × Int→Int→Int→Int→Bool→VT→Prop)(PM WM PR WR:Int→Int→Bool→VT→Prop):FuncId→Option ba:=az [(JL,wB),(DW,hJ [.agg w.cells] (.val (.bool lt))),(eR,LY w.cells a b R),(Ar,D5 a b f PD WD),(tp,wd a b PM WM),(x9,wd a b PR WR)]
def L7 (a b:VO)(Lp:Int→Bs→VT→Prop)(W:Int→VT→Prop)(c0:Code):Nat→Option (bH × Code):=dk [(0,J5 a b Lp W,c0)]
theorem J6 (o:Nat→VO)(rg:VO)(lk:Value→Option TV)(es:Es)(ck:Nat)(now came went:Int)(x:Nat→VO)(rg1 rg3:VO)(x1 x3:Nat→VO)(p:Nat)(f:Fl)(b n:Int)(Pre Pre2:VT→Prop)(Q:TV→VT→Prop):aH prog ae (az [(vW,Ad p Pre rg1 x1),(vX,Gf p Pre2 rg3 x3)]) (bp [(999998,.dead,none),(20,.ptr p 0,none),(32,.val (.int .i64 b),some λT=>T)]) 300 bo 0 GK [.ptr 6 0,.agg (au f),.val (.int .i64 n)] (fy o rg lk es ck now came went x []) Q=
 (cm prog (λ_=>.none) ⟨[(o (0:Nat)),(o (1:Nat)),(o (2:Nat)),(o (3:Nat)),(rg),(.map ⟨true,[(.int .i64),(.int .u32),(.int .u32),(.int .i64),(.int .i64)]⟩ (lk) (es) (ck)),(.cells [(.val (.int .i64 20)),(.val (.int .i64 100)),(.val (.int .i64 (if n>now then n else now))),(.map 5),(.ptr 4 0),(.val (.int .i64 (came))),(.val (.int .i64 (went)))]),(o (7:Nat)),(o (8:Nat)),(o (9:Nat)),(o (10:Nat)),(o (11:Nat)),(o (12:Nat)),(o (13:Nat)),(o (14:Nat)),(o (15:Nat))]++(aB x++ [(.cells [(.val (.int .i64 (fst f))),(.val (.int .u32 (fst (snd f)))),(.val (.int .u32 (fst (snd (snd f))))),(.val (.int .i64 (fst (snd (snd (snd f)))))),(.val (.int .i64 (snd (snd (snd (snd f))))))])]),[]⟩ false (.lookup 97 (.tmp 18) (.tmp 19) false) [(18,(.map 5)),(19,(cR (fst f) (fst (snd f)) (fst (snd (snd f))) (fst (snd (snd (snd f)))) (snd (snd (snd (snd f))))))] (cJ p)∧
 (((@Eq (Nat) 0 0)∧
 ((@Eq (List TV) [(cJ p)] [(cJ p)])∧
 Pre ⟨[(o (0:Nat)),(o (1:Nat)),(o (2:Nat)),(o (3:Nat)),(rg),(.map ⟨true,[(.int .i64),(.int .u32),(.int .u32),(.int .i64),(.int .i64)]⟩ (lk) (es) (ck)),(.cells [(.val (.int .i64 20)),(.val (.int .i64 100)),(.val (.int .i64 (if n>now then n else now))),(.map 5),(.ptr 4 0),(.val (.int .i64 (came))),(.val (.int .i64 (went)))]),(o (7:Nat)),(o (8:Nat)),(o (9:Nat)),(o (10:Nat)),(o (11:Nat)),(o (12:Nat)),(o (13:Nat)),(o (14:Nat)),(o (15:Nat))]++(aB x++ [(.cells [(.val (.int .i64 (fst f))),(.val (.int .u32 (fst (snd f)))),(.val (.int .u32 (fst (snd (snd f))))),(.val (.int .i64 (fst (snd (snd (snd f)))))),(.val (.int .i64 (snd (snd (snd (snd f))))))])]),[]⟩))∧
 (((@Eq (Nat) 0 0)∧
 ((@Eq (List TV) (pq p) (pq p))∧
 Pre2 ⟨[(o (0:Nat)),(o (1:Nat)),(o (2:Nat)),(o (3:Nat)),(rg1),(.map ⟨true,[(.int .i64),(.int .u32),(.int .u32),(.int .i64),(.int .i64)]⟩ (lk) (es) (ck)),(.cells [(.val (.int .i64 20)),(.val (.int .i64 100)),(.val (.int .i64 (if n>now then n else now))),(.map 5),(.ptr 4 0),(.val (.int .i64 (came))),(.val (.int .i64 (went)))]),(o (7:Nat)),(o (8:Nat)),(o (9:Nat)),(o (10:Nat)),(o (11:Nat)),(o (12:Nat)),(o (13:Nat)),(o (14:Nat)),(o (15:Nat))]++(aB x1++ [(.cells [(.val (.int .i64 (fst f))),(.val (.int .u32 (fst (snd f)))),(.val (.int .u32 (fst (snd (snd f))))),(.val (.int .i64 (fst (snd (snd (snd f)))))),(.val (.int .i64 (snd (snd (snd (snd f))))))])]),[]⟩))∧
 (aM prog (λ_=>.none) 0 ⟨[(o (0:Nat)),(o (1:Nat)),(o (2:Nat)),(o (3:Nat)),(rg3),(.map ⟨true,[(.int .i64),(.int .u32),(.int .u32),(.int .i64),(.int .i64)]⟩ (lk) (es) (ck)),(.cells [(.val (.int .i64 20)),(.val (.int .i64 100)),(.val (.int .i64 (if n>now then n else now))),(.map 5),(.ptr 4 0),(.val (.int .i64 (came))),(.val (.int .i64 (went)))]),(o (7:Nat)),(o (8:Nat)),(o (9:Nat)),(o (10:Nat)),(o (11:Nat)),(o (12:Nat)),(o (13:Nat)),(o (14:Nat)),(o (15:Nat))]++(aB x3++ [(.cells [(.val (.int .i64 (fst f))),(.val (.int .u32 (fst (snd f)))),(.val (.int .u32 (fst (snd (snd f))))),(.val (.int .i64 (fst (snd (snd (snd f)))))),(.val (.int .i64 (snd (snd (snd (snd f))))))])]),[]⟩ (.load 3 (.tmp 31)) [(31,(.ptr p 5))] (ar b) ⟨[(o (0:Nat)),(o (1:Nat)),(o (2:Nat)),(o (3:Nat)),(rg3),(.map ⟨true,[(.int .i64),(.int .u32),(.int .u32),(.int .i64),(.int .i64)]⟩ (lk) (es) (ck)),(.cells [(.val (.int .i64 20)),(.val (.int .i64 100)),(.val (.int .i64 (if n>now then n else now))),(.map 5),(.ptr 4 0),(.val (.int .i64 (came))),(.val (.int .i64 (went)))]),(o (7:Nat)),(o (8:Nat)),(o (9:Nat)),(o (10:Nat)),(o (11:Nat)),(o (12:Nat)),(o (13:Nat)),(o (14:Nat)),(o (15:Nat))]++(aB x3++ [(.cells [(.val (.int .i64 (fst f))),(.val (.int .u32 (fst (snd f)))),(.val (.int .u32 (fst (snd (snd f))))),(.val (.int .i64 (fst (snd (snd (snd f)))))),(.val (.int .i64 (snd (snd (snd (snd f))))))])]),[]⟩∧
 Q (.tup [(ar b),ip]) ⟨[(o (0:Nat)),(o (1:Nat)),(o (2:Nat)),(o (3:Nat)),(rg3),(.map ⟨true,[(.int .i64),(.int .u32),(.int .u32),(.int .i64),(.int .i64)]⟩ (lk) (es) (ck)),(.cells [(.val (.int .i64 20)),(.val (.int .i64 100)),(.val (.int .i64 (if n>now then n else now))),(.map 5),(.ptr 4 0),(.val (.int .i64 (came))),(.val (.int .i64 (went)))]),(o (7:Nat)),(o (8:Nat)),(o (9:Nat)),(o (10:Nat)),(o (11:Nat)),(o (12:Nat)),(o (13:Nat)),(o (14:Nat)),(o (15:Nat))]++(aB x3++ [(.cells [(.val (.int .i64 (fst f))),(.val (.int .u32 (fst (snd f)))),(.val (.int .u32 (fst (snd (snd f))))),(.val (.int .i64 (fst (snd (snd (snd f)))))),(.val (.int .i64 (snd (snd (snd (snd f))))))])]),[]⟩)))):=by kernel_rfl
theorem J7 (o:Nat→VO)(rg:VO)(lk:Value→Option TV)(es:Es)(ck:Nat)(now came went:Int)(x:Nat→VO)(rg1 mp1:VO)(x1:Nat→VO)(p:Nat)(f:Fl)(Pre:VT→Prop)(Q:TV→VT→Prop):aH prog ae (az [(yD,Dv p Pre rg1 mp1 x1)]) (bp [(999998,.dead,none),(14,.ptr p 0,none),(23,.ptr p 0,none)]) 300 bo 0 D4 [.ptr 6 0,.agg (au f)] (fy o rg lk es ck now came went x []) Q=
 (cm prog (λ_=>.none) ⟨[(o (0:Nat)),(o (1:Nat)),(o (2:Nat)),(o (3:Nat)),(rg),(.map ⟨true,[(.int .i64),(.int .u32),(.int .u32),(.int .i64),(.int .i64)]⟩ (lk) (es) (ck)),(.cells [(.val (.int .i64 20)),(.val (.int .i64 100)),(.val (.int .i64 (now))),(.map 5),(.ptr 4 0),(.val (.int .i64 (came))),(.val (.int .i64 (went)))]),(o (7:Nat)),(o (8:Nat)),(o (9:Nat)),(o (10:Nat)),(o (11:Nat)),(o (12:Nat)),(o (13:Nat)),(o (14:Nat)),(o (15:Nat))]++(aB x++ [(.cells [(.val (.int .i64 (fst f))),(.val (.int .u32 (fst (snd f)))),(.val (.int .u32 (fst (snd (snd f))))),(.val (.int .i64 (fst (snd (snd (snd f)))))),(.val (.int .i64 (snd (snd (snd (snd f))))))])]),[]⟩ false (.lookup 97 (.tmp 12) (.tmp 13) false) [(12,(.map 5)),(13,(cR (fst f) (fst (snd f)) (fst (snd (snd f))) (fst (snd (snd (snd f)))) (snd (snd (snd (snd f))))))] (cJ p)∧
 (cm prog (λ_=>.none) ⟨[(o (0:Nat)),(o (1:Nat)),(o (2:Nat)),(o (3:Nat)),(rg),(.map ⟨true,[(.int .i64),(.int .u32),(.int .u32),(.int .i64),(.int .i64)]⟩ (lk) (es) (ck)),(.cells [(.val (.int .i64 20)),(.val (.int .i64 100)),(.val (.int .i64 (now))),(.map 5),(.ptr 4 0),(.val (.int .i64 (came))),(.val (.int .i64 (went)))]),(o (7:Nat)),(o (8:Nat)),(o (9:Nat)),(o (10:Nat)),(o (11:Nat)),(o (12:Nat)),(o (13:Nat)),(o (14:Nat)),(o (15:Nat))]++(aB x++ [(.cells [(.val (.int .i64 (fst f))),(.val (.int .u32 (fst (snd f)))),(.val (.int .u32 (fst (snd (snd f))))),(.val (.int .i64 (fst (snd (snd (snd f)))))),(.val (.int .i64 (snd (snd (snd (snd f))))))])]),[]⟩ false (.lookup 97 (.tmp 21) (.tmp 22) false) [(21,(.map 5)),(22,(cR (fst f) (fst (snd f)) (fst (snd (snd f))) (fst (snd (snd (snd f)))) (snd (snd (snd (snd f))))))] (cJ p)∧
 (((@Eq (Nat) 0 0)∧
 ((@Eq (List TV) (pq p) (pq p))∧
 Pre ⟨[(o (0:Nat)),(o (1:Nat)),(o (2:Nat)),(o (3:Nat)),(rg),(.map ⟨true,[(.int .i64),(.int .u32),(.int .u32),(.int .i64),(.int .i64)]⟩ (lk) (es) (ck)),(.cells [(.val (.int .i64 20)),(.val (.int .i64 100)),(.val (.int .i64 (now))),(.map 5),(.ptr 4 0),(.val (.int .i64 (came))),(.val (.int .i64 (went)))]),(o (7:Nat)),(o (8:Nat)),(o (9:Nat)),(o (10:Nat)),(o (11:Nat)),(o (12:Nat)),(o (13:Nat)),(o (14:Nat)),(o (15:Nat))]++(aB x++ [(.cells [(.val (.int .i64 (fst f))),(.val (.int .u32 (fst (snd f)))),(.val (.int .u32 (fst (snd (snd f))))),(.val (.int .i64 (fst (snd (snd (snd f)))))),(.val (.int .i64 (snd (snd (snd (snd f))))))])]),[]⟩))∧
 Q ip ⟨[(o (0:Nat)),(o (1:Nat)),(o (2:Nat)),(o (3:Nat)),(rg1),(mp1),(.cells [(.val (.int .i64 20)),(.val (.int .i64 100)),(.val (.int .i64 (now))),(.map 5),(.ptr 4 0),(.val (.int .i64 (came))),(.val (.int .i64 (went)))]),(o (7:Nat)),(o (8:Nat)),(o (9:Nat)),(o (10:Nat)),(o (11:Nat)),(o (12:Nat)),(o (13:Nat)),(o (14:Nat)),(o (15:Nat))]++(aB x1++ [(.cells [(.val (.int .i64 (fst f))),(.val (.int .u32 (fst (snd f)))),(.val (.int .u32 (fst (snd (snd f))))),(.val (.int .i64 (fst (snd (snd (snd f)))))),(.val (.int .i64 (snd (snd (snd (snd f))))))])]),[]⟩))):=by kernel_rfl
theorem J8 (o:Nat→VO)(rg:VO)(lk:Value→Option TV)(es:Es)(ck:Nat)(now came went:Int)(x:Nat→VO)(f:Fl)(Q:TV→VT→Prop):aH prog ae cT (bp [(999998,.dead,none),(14,.val (.pointer none),none)]) 300 bo 0 D4 [.ptr 6 0,.agg (au f)] (fy o rg lk es ck now came went x []) Q=
 (cm prog (λ_=>.none) ⟨[(o (0:Nat)),(o (1:Nat)),(o (2:Nat)),(o (3:Nat)),(rg),(.map ⟨true,[(.int .i64),(.int .u32),(.int .u32),(.int .i64),(.int .i64)]⟩ (lk) (es) (ck)),(.cells [(.val (.int .i64 20)),(.val (.int .i64 100)),(.val (.int .i64 (now))),(.map 5),(.ptr 4 0),(.val (.int .i64 (came))),(.val (.int .i64 (went)))]),(o (7:Nat)),(o (8:Nat)),(o (9:Nat)),(o (10:Nat)),(o (11:Nat)),(o (12:Nat)),(o (13:Nat)),(o (14:Nat)),(o (15:Nat))]++(aB x++ [(.cells [(.val (.int .i64 (fst f))),(.val (.int .u32 (fst (snd f)))),(.val (.int .u32 (fst (snd (snd f))))),(.val (.int .i64 (fst (snd (snd (snd f)))))),(.val (.int .i64 (snd (snd (snd (snd f))))))])]),[]⟩ false (.lookup 97 (.tmp 12) (.tmp 13) false) [(12,(.map 5)),(13,(cR (fst f) (fst (snd f)) (fst (snd (snd f))) (fst (snd (snd (snd f)))) (snd (snd (snd (snd f))))))] (.val (.pointer .none))∧
 Q dG ⟨[(o (0:Nat)),(o (1:Nat)),(o (2:Nat)),(o (3:Nat)),(rg),(.map ⟨true,[(.int .i64),(.int .u32),(.int .u32),(.int .i64),(.int .i64)]⟩ (lk) (es) (ck)),(.cells [(.val (.int .i64 20)),(.val (.int .i64 100)),(.val (.int .i64 (now))),(.map 5),(.ptr 4 0),(.val (.int .i64 (came))),(.val (.int .i64 (went)))]),(o (7:Nat)),(o (8:Nat)),(o (9:Nat)),(o (10:Nat)),(o (11:Nat)),(o (12:Nat)),(o (13:Nat)),(o (14:Nat)),(o (15:Nat))]++(aB x++ [(.cells [(.val (.int .i64 (fst f))),(.val (.int .u32 (fst (snd f)))),(.val (.int .u32 (fst (snd (snd f))))),(.val (.int .i64 (fst (snd (snd (snd f)))))),(.val (.int .i64 (snd (snd (snd (snd f))))))])]),[]⟩):=by kernel_rfl
theorem Lx (a b:VO)(y:Nat→VO)(f:Fl)(now k d s:Int)(n:Bool)(Pre PG WG:VT→Prop)(WP:Int→VT→Prop)(WR:VT→Prop)(Q:TV→VT→Prop):aH prog ae (L5 a b f now k d s n Pre PG WG WP WR) bx 300 bo 0 Ar [.ptr 6 0,.ptr 8 0,.ptr 11 0,.agg (au f),.val (.int .i64 now),.val (.bool false)] (rT a b y []) Q=
 (((@Eq (Nat) 0 0)∧
 ((@Eq (List TV) [ma,j7,(.ptr 11 0),(cR (fst f) (fst (snd f)) (fst (snd (snd f))) (fst (snd (snd (snd f)))) (snd (snd (snd (snd f))))),(ar now),dG] [ma,j7,(.ptr 11 0),(cR (fst f) (fst (snd f)) (fst (snd (snd f))) (fst (snd (snd (snd f)))) (snd (snd (snd (snd f))))),(ar now),dG])∧
 Pre ⟨[(a),(b)]++(aB y++ [(y (101:Nat)),(y (102:Nat)),(y (103:Nat)),(y (104:Nat)),(y (105:Nat)),(y (106:Nat)),(y (107:Nat)),(y (108:Nat)),(y (109:Nat)),(y (110:Nat)),(y (111:Nat)),(y (112:Nat)),(y (113:Nat)),(y (114:Nat)),(.cells [(.val (.int .i64 (fst f))),(.val (.int .u32 (fst (snd f)))),(.val (.int .u32 (fst (snd (snd f))))),(.val (.int .i64 (fst (snd (snd (snd f)))))),(.val (.int .i64 (snd (snd (snd (snd f))))))]),(.cells [(.val (.int .i64 0)),(.val (.int .i64 0)),(.val (.int .i64 0)),(.val (.bool false))])]),[]⟩))∧
 (bif bN eql
  (am ((λvs=>Value.agg (toArray vs)) ((λx=>Value.int i64 k::x) ((λx=>Value.int i64 d::x) ((λx=>Value.int i64 s::x) ((λx=>Value.bool n::x) [])))))
    ((λvs=>Value.agg (toArray vs)) ((λx=>Value.int i64 (1:Int)::x) ((λx=>Value.int i64 d::x) ((λx=>Value.int i64 (0:Int)::x) ((λx=>Value.bool true::x) []))))))
 then (((@Eq (Nat) 0 0)∧
 ((@Eq (List TV) [ma,(cR (fst f) (fst (snd f)) (fst (snd (snd f))) (fst (snd (snd (snd f)))) (snd (snd (snd (snd f))))),(ar now)] [ma,(cR (fst f) (fst (snd f)) (fst (snd (snd f))) (fst (snd (snd (snd f)))) (snd (snd (snd (snd f))))),(ar now)])∧
 PG ⟨[(a),(b)]++(aB y++ [(y (101:Nat)),(y (102:Nat)),(y (103:Nat)),(y (104:Nat)),(y (105:Nat)),(y (106:Nat)),(y (107:Nat)),(y (108:Nat)),(y (109:Nat)),(y (110:Nat)),(y (111:Nat)),(y (112:Nat)),(y (113:Nat)),(y (114:Nat)),(.cells [(.val (.int .i64 (fst f))),(.val (.int .u32 (fst (snd f)))),(.val (.int .u32 (fst (snd (snd f))))),(.val (.int .i64 (fst (snd (snd (snd f)))))),(.val (.int .i64 (snd (snd (snd (snd f))))))]),(.cells [(.val (.int .i64 0)),(.val (.int .i64 0)),(.val (.int .i64 0)),(.val (.bool false))]),(.cells [(.val (.int .i64 (k))),(.val (.int .i64 (d))),(.val (.int .i64 (s))),(.val (.bool (n)))]),(.cells [(.val (.int .i64 1)),(.val (.int .i64 (d))),(.val (.int .i64 0)),(.val (.bool true))])]),[]⟩))∧
 (∀c:Int,(∀q:Bool,(∀y':Nat→VO,(WG ⟨[a,b,y' (nat_lit 0),y' (nat_lit 1),y' (nat_lit 2),y' (nat_lit 3),y' (nat_lit 4),y' (nat_lit 5),y' (nat_lit 6),y' (nat_lit 7),y' (nat_lit 8),y' (nat_lit 9),y' (nat_lit 10),y' (nat_lit 11),y' (nat_lit 12),y' (nat_lit 13),y' (nat_lit 14),y' (nat_lit 15),y' (nat_lit 16),y' (nat_lit 17),y' (nat_lit 18),y' (nat_lit 19),y' (nat_lit 20),y' (nat_lit 21),y' (nat_lit 22),y' (nat_lit 23),y' (nat_lit 24),y' (nat_lit 25),y' (nat_lit 26),y' (nat_lit 27),y' (nat_lit 28),y' (nat_lit 29),y' (nat_lit 30),y' (nat_lit 31),y' (nat_lit 32),y' (nat_lit 33),y' (nat_lit 34),y' (nat_lit 35),y' (nat_lit 36),y' (nat_lit 37),y' (nat_lit 38),y' (nat_lit 39),y' (nat_lit 40),y' (nat_lit 41),y' (nat_lit 42),y' (nat_lit 43),y' (nat_lit 44),y' (nat_lit 45),y' (nat_lit 46),y' (nat_lit 47),y' (nat_lit 48),y' (nat_lit 49),y' (nat_lit 50),y' (nat_lit 51),y' (nat_lit 52),y' (nat_lit 53),y' (nat_lit 54),y' (nat_lit 55),y' (nat_lit 56),y' (nat_lit 57),y' (nat_lit 58),y' (nat_lit 59),y' (nat_lit 60),y' (nat_lit 61),y' (nat_lit 62),y' (nat_lit 63),y' (nat_lit 64),y' (nat_lit 65),y' (nat_lit 66),y' (nat_lit 67),y' (nat_lit 68),y' (nat_lit 69),y' (nat_lit 70),y' (nat_lit 71),y' (nat_lit 72),y' (nat_lit 73),y' (nat_lit 74),y' (nat_lit 75),y' (nat_lit 76),y' (nat_lit 77),y' (nat_lit 78),y' (nat_lit 79),y' (nat_lit 80),y' (nat_lit 81),y' (nat_lit 82),y' (nat_lit 83),y' (nat_lit 84),y' (nat_lit 85),y' (nat_lit 86),y' (nat_lit 87),y' (nat_lit 88),y' (nat_lit 89),y' (nat_lit 90),y' (nat_lit 91),y' (nat_lit 92),y' (nat_lit 93),y' (nat_lit 94),y' (nat_lit 95),y' (nat_lit 96),y' (nat_lit 97),y' (nat_lit 98),y' (nat_lit 99),y' (nat_lit 100),y' (101:Nat),y' (102:Nat),y' (103:Nat),y' (104:Nat),y' (105:Nat),y' (106:Nat),y' (107:Nat),y' (108:Nat),y' (109:Nat),y' (110:Nat),y' (111:Nat),y' (112:Nat),y' (113:Nat),y' (114:Nat),(iY (fst f) (fst (snd f)) (fst (snd (snd f))) (fst (snd (snd (snd f)))) (snd (snd (snd (snd f))))),EO,(iZ k d s n),(un d)],[]⟩→Q (uo k d s n) ⟨[a,b,y' (nat_lit 0),y' (nat_lit 1),y' (nat_lit 2),y' (nat_lit 3),y' (nat_lit 4),y' (nat_lit 5),y' (nat_lit 6),y' (nat_lit 7),y' (nat_lit 8),y' (nat_lit 9),y' (nat_lit 10),y' (nat_lit 11),y' (nat_lit 12),y' (nat_lit 13),y' (nat_lit 14),y' (nat_lit 15),y' (nat_lit 16),y' (nat_lit 17),y' (nat_lit 18),y' (nat_lit 19),y' (nat_lit 20),y' (nat_lit 21),y' (nat_lit 22),y' (nat_lit 23),y' (nat_lit 24),y' (nat_lit 25),y' (nat_lit 26),y' (nat_lit 27),y' (nat_lit 28),y' (nat_lit 29),y' (nat_lit 30),y' (nat_lit 31),y' (nat_lit 32),y' (nat_lit 33),y' (nat_lit 34),y' (nat_lit 35),y' (nat_lit 36),y' (nat_lit 37),y' (nat_lit 38),y' (nat_lit 39),y' (nat_lit 40),y' (nat_lit 41),y' (nat_lit 42),y' (nat_lit 43),y' (nat_lit 44),y' (nat_lit 45),y' (nat_lit 46),y' (nat_lit 47),y' (nat_lit 48),y' (nat_lit 49),y' (nat_lit 50),y' (nat_lit 51),y' (nat_lit 52),y' (nat_lit 53),y' (nat_lit 54),y' (nat_lit 55),y' (nat_lit 56),y' (nat_lit 57),y' (nat_lit 58),y' (nat_lit 59),y' (nat_lit 60),y' (nat_lit 61),y' (nat_lit 62),y' (nat_lit 63),y' (nat_lit 64),y' (nat_lit 65),y' (nat_lit 66),y' (nat_lit 67),y' (nat_lit 68),y' (nat_lit 69),y' (nat_lit 70),y' (nat_lit 71),y' (nat_lit 72),y' (nat_lit 73),y' (nat_lit 74),y' (nat_lit 75),y' (nat_lit 76),y' (nat_lit 77),y' (nat_lit 78),y' (nat_lit 79),y' (nat_lit 80),y' (nat_lit 81),y' (nat_lit 82),y' (nat_lit 83),y' (nat_lit 84),y' (nat_lit 85),y' (nat_lit 86),y' (nat_lit 87),y' (nat_lit 88),y' (nat_lit 89),y' (nat_lit 90),y' (nat_lit 91),y' (nat_lit 92),y' (nat_lit 93),y' (nat_lit 94),y' (nat_lit 95),y' (nat_lit 96),y' (nat_lit 97),y' (nat_lit 98),y' (nat_lit 99),y' (nat_lit 100),y' (101:Nat),y' (102:Nat),y' (103:Nat),y' (104:Nat),y' (105:Nat),y' (106:Nat),y' (107:Nat),y' (108:Nat),y' (109:Nat),y' (110:Nat),y' (111:Nat),y' (112:Nat),y' (113:Nat),y' (114:Nat),(iY (fst f) (fst (snd f)) (fst (snd (snd f))) (fst (snd (snd (snd f)))) (snd (snd (snd (snd f))))),(iZ k d s n),(iZ k d s n),(un d)],[]⟩)))))
 else (bif bN eql (k6 k (1:Int))
 then (((@Eq (Nat) 0 0)∧
 ((@Eq (TV) (cR (fst f) (fst (snd f)) (fst (snd (snd f))) (fst (snd (snd (snd f)))) (snd (snd (snd (snd f))))) (cR (fst f) (fst (snd f)) (fst (snd (snd f))) (fst (snd (snd (snd f)))) (snd (snd (snd (snd f))))))∧
 ((@Eq (Int) (now) (now))∧
 Pre ⟨[(a),(b)]++(aB y++ [(y (101:Nat)),(y (102:Nat)),(y (103:Nat)),(y (104:Nat)),(y (105:Nat)),(y (106:Nat)),(y (107:Nat)),(y (108:Nat)),(y (109:Nat)),(y (110:Nat)),(y (111:Nat)),(y (112:Nat)),(y (113:Nat)),(y (114:Nat)),(.cells [(.val (.int .i64 (fst f))),(.val (.int .u32 (fst (snd f)))),(.val (.int .u32 (fst (snd (snd f))))),(.val (.int .i64 (fst (snd (snd (snd f)))))),(.val (.int .i64 (snd (snd (snd (snd f))))))]),(.cells [(.val (.int .i64 0)),(.val (.int .i64 0)),(.val (.int .i64 0)),(.val (.bool false))]),(.cells [(.val (.int .i64 (k))),(.val (.int .i64 (d))),(.val (.int .i64 (s))),(.val (.bool (n)))]),(.cells [(.val (.int .i64 1)),(.val (.int .i64 (d))),(.val (.int .i64 0)),(.val (.bool true))])]),[]⟩)))∧
 (∀en:En,(∀q:Bool,(∀y':Nat→VO,(∀e':VO,(WP (d) ⟨[a,b,y' (nat_lit 0),y' (nat_lit 1),y' (nat_lit 2),y' (nat_lit 3),y' (nat_lit 4),y' (nat_lit 5),y' (nat_lit 6),y' (nat_lit 7),y' (nat_lit 8),y' (nat_lit 9),y' (nat_lit 10),y' (nat_lit 11),y' (nat_lit 12),y' (nat_lit 13),y' (nat_lit 14),y' (nat_lit 15),y' (nat_lit 16),y' (nat_lit 17),y' (nat_lit 18),y' (nat_lit 19),y' (nat_lit 20),y' (nat_lit 21),y' (nat_lit 22),y' (nat_lit 23),y' (nat_lit 24),y' (nat_lit 25),y' (nat_lit 26),y' (nat_lit 27),y' (nat_lit 28),y' (nat_lit 29),y' (nat_lit 30),y' (nat_lit 31),y' (nat_lit 32),y' (nat_lit 33),y' (nat_lit 34),y' (nat_lit 35),y' (nat_lit 36),y' (nat_lit 37),y' (nat_lit 38),y' (nat_lit 39),y' (nat_lit 40),y' (nat_lit 41),y' (nat_lit 42),y' (nat_lit 43),y' (nat_lit 44),y' (nat_lit 45),y' (nat_lit 46),y' (nat_lit 47),y' (nat_lit 48),y' (nat_lit 49),y' (nat_lit 50),y' (nat_lit 51),y' (nat_lit 52),y' (nat_lit 53),y' (nat_lit 54),y' (nat_lit 55),y' (nat_lit 56),y' (nat_lit 57),y' (nat_lit 58),y' (nat_lit 59),y' (nat_lit 60),y' (nat_lit 61),y' (nat_lit 62),y' (nat_lit 63),y' (nat_lit 64),y' (nat_lit 65),y' (nat_lit 66),y' (nat_lit 67),y' (nat_lit 68),y' (nat_lit 69),y' (nat_lit 70),y' (nat_lit 71),y' (nat_lit 72),y' (nat_lit 73),y' (nat_lit 74),y' (nat_lit 75),y' (nat_lit 76),y' (nat_lit 77),y' (nat_lit 78),y' (nat_lit 79),y' (nat_lit 80),y' (nat_lit 81),y' (nat_lit 82),y' (nat_lit 83),y' (nat_lit 84),y' (nat_lit 85),y' (nat_lit 86),y' (nat_lit 87),y' (nat_lit 88),y' (nat_lit 89),y' (nat_lit 90),y' (nat_lit 91),y' (nat_lit 92),y' (nat_lit 93),y' (nat_lit 94),y' (nat_lit 95),y' (nat_lit 96),y' (nat_lit 97),y' (nat_lit 98),y' (nat_lit 99),y' (nat_lit 100),y' (101:Nat),y' (102:Nat),y' (103:Nat),y' (104:Nat),y' (105:Nat),y' (106:Nat),y' (107:Nat),y' (108:Nat),y' (109:Nat),y' (110:Nat),y' (111:Nat),y' (112:Nat),y' (113:Nat),y' (114:Nat),(iY (fst f) (fst (snd f)) (fst (snd (snd f))) (fst (snd (snd (snd f)))) (snd (snd (snd (snd f))))),EO,(iZ k d s n),(un d),e'],[]⟩→Q (uo k d s n) ⟨[a,b,y' (nat_lit 0),y' (nat_lit 1),y' (nat_lit 2),y' (nat_lit 3),y' (nat_lit 4),y' (nat_lit 5),y' (nat_lit 6),y' (nat_lit 7),y' (nat_lit 8),y' (nat_lit 9),y' (nat_lit 10),y' (nat_lit 11),y' (nat_lit 12),y' (nat_lit 13),y' (nat_lit 14),y' (nat_lit 15),y' (nat_lit 16),y' (nat_lit 17),y' (nat_lit 18),y' (nat_lit 19),y' (nat_lit 20),y' (nat_lit 21),y' (nat_lit 22),y' (nat_lit 23),y' (nat_lit 24),y' (nat_lit 25),y' (nat_lit 26),y' (nat_lit 27),y' (nat_lit 28),y' (nat_lit 29),y' (nat_lit 30),y' (nat_lit 31),y' (nat_lit 32),y' (nat_lit 33),y' (nat_lit 34),y' (nat_lit 35),y' (nat_lit 36),y' (nat_lit 37),y' (nat_lit 38),y' (nat_lit 39),y' (nat_lit 40),y' (nat_lit 41),y' (nat_lit 42),y' (nat_lit 43),y' (nat_lit 44),y' (nat_lit 45),y' (nat_lit 46),y' (nat_lit 47),y' (nat_lit 48),y' (nat_lit 49),y' (nat_lit 50),y' (nat_lit 51),y' (nat_lit 52),y' (nat_lit 53),y' (nat_lit 54),y' (nat_lit 55),y' (nat_lit 56),y' (nat_lit 57),y' (nat_lit 58),y' (nat_lit 59),y' (nat_lit 60),y' (nat_lit 61),y' (nat_lit 62),y' (nat_lit 63),y' (nat_lit 64),y' (nat_lit 65),y' (nat_lit 66),y' (nat_lit 67),y' (nat_lit 68),y' (nat_lit 69),y' (nat_lit 70),y' (nat_lit 71),y' (nat_lit 72),y' (nat_lit 73),y' (nat_lit 74),y' (nat_lit 75),y' (nat_lit 76),y' (nat_lit 77),y' (nat_lit 78),y' (nat_lit 79),y' (nat_lit 80),y' (nat_lit 81),y' (nat_lit 82),y' (nat_lit 83),y' (nat_lit 84),y' (nat_lit 85),y' (nat_lit 86),y' (nat_lit 87),y' (nat_lit 88),y' (nat_lit 89),y' (nat_lit 90),y' (nat_lit 91),y' (nat_lit 92),y' (nat_lit 93),y' (nat_lit 94),y' (nat_lit 95),y' (nat_lit 96),y' (nat_lit 97),y' (nat_lit 98),y' (nat_lit 99),y' (nat_lit 100),y' (101:Nat),y' (102:Nat),y' (103:Nat),y' (104:Nat),y' (105:Nat),y' (106:Nat),y' (107:Nat),y' (108:Nat),y' (109:Nat),y' (110:Nat),y' (111:Nat),y' (112:Nat),y' (113:Nat),y' (114:Nat),(iY (fst f) (fst (snd f)) (fst (snd (snd f))) (fst (snd (snd (snd f)))) (snd (snd (snd (snd f))))),(iZ k d s n),(iZ k d s n),(un d),e'],[]⟩))))))
 else (((@Eq (Nat) 0 0)∧
 ((@Eq (List TV) (Bl (fst f) (fst (snd f)) (fst (snd (snd f))) (fst (snd (snd (snd f)))) (snd (snd (snd (snd f))))) (Bl (fst f) (fst (snd f)) (fst (snd (snd f))) (fst (snd (snd (snd f)))) (snd (snd (snd (snd f))))))∧
 Pre ⟨[(a),(b)]++(aB y++ [(y (101:Nat)),(y (102:Nat)),(y (103:Nat)),(y (104:Nat)),(y (105:Nat)),(y (106:Nat)),(y (107:Nat)),(y (108:Nat)),(y (109:Nat)),(y (110:Nat)),(y (111:Nat)),(y (112:Nat)),(y (113:Nat)),(y (114:Nat)),(.cells [(.val (.int .i64 (fst f))),(.val (.int .u32 (fst (snd f)))),(.val (.int .u32 (fst (snd (snd f))))),(.val (.int .i64 (fst (snd (snd (snd f)))))),(.val (.int .i64 (snd (snd (snd (snd f))))))]),(.cells [(.val (.int .i64 0)),(.val (.int .i64 0)),(.val (.int .i64 0)),(.val (.bool false))]),(.cells [(.val (.int .i64 (k))),(.val (.int .i64 (d))),(.val (.int .i64 (s))),(.val (.bool (n)))]),(.cells [(.val (.int .i64 1)),(.val (.int .i64 (d))),(.val (.int .i64 0)),(.val (.bool true))])]),[]⟩))∧
 (∀q:Bool,(∀y':Nat→VO,(WR ⟨[a,b,y' (nat_lit 0),y' (nat_lit 1),y' (nat_lit 2),y' (nat_lit 3),y' (nat_lit 4),y' (nat_lit 5),y' (nat_lit 6),y' (nat_lit 7),y' (nat_lit 8),y' (nat_lit 9),y' (nat_lit 10),y' (nat_lit 11),y' (nat_lit 12),y' (nat_lit 13),y' (nat_lit 14),y' (nat_lit 15),y' (nat_lit 16),y' (nat_lit 17),y' (nat_lit 18),y' (nat_lit 19),y' (nat_lit 20),y' (nat_lit 21),y' (nat_lit 22),y' (nat_lit 23),y' (nat_lit 24),y' (nat_lit 25),y' (nat_lit 26),y' (nat_lit 27),y' (nat_lit 28),y' (nat_lit 29),y' (nat_lit 30),y' (nat_lit 31),y' (nat_lit 32),y' (nat_lit 33),y' (nat_lit 34),y' (nat_lit 35),y' (nat_lit 36),y' (nat_lit 37),y' (nat_lit 38),y' (nat_lit 39),y' (nat_lit 40),y' (nat_lit 41),y' (nat_lit 42),y' (nat_lit 43),y' (nat_lit 44),y' (nat_lit 45),y' (nat_lit 46),y' (nat_lit 47),y' (nat_lit 48),y' (nat_lit 49),y' (nat_lit 50),y' (nat_lit 51),y' (nat_lit 52),y' (nat_lit 53),y' (nat_lit 54),y' (nat_lit 55),y' (nat_lit 56),y' (nat_lit 57),y' (nat_lit 58),y' (nat_lit 59),y' (nat_lit 60),y' (nat_lit 61),y' (nat_lit 62),y' (nat_lit 63),y' (nat_lit 64),y' (nat_lit 65),y' (nat_lit 66),y' (nat_lit 67),y' (nat_lit 68),y' (nat_lit 69),y' (nat_lit 70),y' (nat_lit 71),y' (nat_lit 72),y' (nat_lit 73),y' (nat_lit 74),y' (nat_lit 75),y' (nat_lit 76),y' (nat_lit 77),y' (nat_lit 78),y' (nat_lit 79),y' (nat_lit 80),y' (nat_lit 81),y' (nat_lit 82),y' (nat_lit 83),y' (nat_lit 84),y' (nat_lit 85),y' (nat_lit 86),y' (nat_lit 87),y' (nat_lit 88),y' (nat_lit 89),y' (nat_lit 90),y' (nat_lit 91),y' (nat_lit 92),y' (nat_lit 93),y' (nat_lit 94),y' (nat_lit 95),y' (nat_lit 96),y' (nat_lit 97),y' (nat_lit 98),y' (nat_lit 99),y' (nat_lit 100),y' (101:Nat),y' (102:Nat),y' (103:Nat),y' (104:Nat),y' (105:Nat),y' (106:Nat),y' (107:Nat),y' (108:Nat),y' (109:Nat),y' (110:Nat),y' (111:Nat),y' (112:Nat),y' (113:Nat),y' (114:Nat),(iY (fst f) (fst (snd f)) (fst (snd (snd f))) (fst (snd (snd (snd f)))) (snd (snd (snd (snd f))))),EO,(iZ k d s n),(un d)],[]⟩→Q (uo k d s n) ⟨[a,b,y' (nat_lit 0),y' (nat_lit 1),y' (nat_lit 2),y' (nat_lit 3),y' (nat_lit 4),y' (nat_lit 5),y' (nat_lit 6),y' (nat_lit 7),y' (nat_lit 8),y' (nat_lit 9),y' (nat_lit 10),y' (nat_lit 11),y' (nat_lit 12),y' (nat_lit 13),y' (nat_lit 14),y' (nat_lit 15),y' (nat_lit 16),y' (nat_lit 17),y' (nat_lit 18),y' (nat_lit 19),y' (nat_lit 20),y' (nat_lit 21),y' (nat_lit 22),y' (nat_lit 23),y' (nat_lit 24),y' (nat_lit 25),y' (nat_lit 26),y' (nat_lit 27),y' (nat_lit 28),y' (nat_lit 29),y' (nat_lit 30),y' (nat_lit 31),y' (nat_lit 32),y' (nat_lit 33),y' (nat_lit 34),y' (nat_lit 35),y' (nat_lit 36),y' (nat_lit 37),y' (nat_lit 38),y' (nat_lit 39),y' (nat_lit 40),y' (nat_lit 41),y' (nat_lit 42),y' (nat_lit 43),y' (nat_lit 44),y' (nat_lit 45),y' (nat_lit 46),y' (nat_lit 47),y' (nat_lit 48),y' (nat_lit 49),y' (nat_lit 50),y' (nat_lit 51),y' (nat_lit 52),y' (nat_lit 53),y' (nat_lit 54),y' (nat_lit 55),y' (nat_lit 56),y' (nat_lit 57),y' (nat_lit 58),y' (nat_lit 59),y' (nat_lit 60),y' (nat_lit 61),y' (nat_lit 62),y' (nat_lit 63),y' (nat_lit 64),y' (nat_lit 65),y' (nat_lit 66),y' (nat_lit 67),y' (nat_lit 68),y' (nat_lit 69),y' (nat_lit 70),y' (nat_lit 71),y' (nat_lit 72),y' (nat_lit 73),y' (nat_lit 74),y' (nat_lit 75),y' (nat_lit 76),y' (nat_lit 77),y' (nat_lit 78),y' (nat_lit 79),y' (nat_lit 80),y' (nat_lit 81),y' (nat_lit 82),y' (nat_lit 83),y' (nat_lit 84),y' (nat_lit 85),y' (nat_lit 86),y' (nat_lit 87),y' (nat_lit 88),y' (nat_lit 89),y' (nat_lit 90),y' (nat_lit 91),y' (nat_lit 92),y' (nat_lit 93),y' (nat_lit 94),y' (nat_lit 95),y' (nat_lit 96),y' (nat_lit 97),y' (nat_lit 98),y' (nat_lit 99),y' (nat_lit 100),y' (101:Nat),y' (102:Nat),y' (103:Nat),y' (104:Nat),y' (105:Nat),y' (106:Nat),y' (107:Nat),y' (108:Nat),y' (109:Nat),y' (110:Nat),y' (111:Nat),y' (112:Nat),y' (113:Nat),y' (114:Nat),(iY (fst f) (fst (snd f)) (fst (snd (snd f))) (fst (snd (snd (snd f)))) (snd (snd (snd (snd f))))),(iZ k d s n),(iZ k d s n),(un d)],[]⟩))))))):=by kernel_rfl
theorem J9 (lt:Bool)(w:Wd)(f:Fl)(L:Bs)(Q:TV→VT→Prop):aH prog ae (L0 lt w) bx 300 bo 0 rq [.agg w.cells,.agg (au f),.vec 1 L .none] jk Q=
 ((@Eq (List TV) (uj (Wd.pc w) (Wd.B w) (Wd.U w) (Wd.D w) (Wd.S w) (Wd.C w) (Wd.F w) (Wd.W w)) (uj (Wd.pc w) (Wd.B w) (Wd.U w) (Wd.D w) (Wd.S w) (Wd.C w) (Wd.F w) (Wd.W w)))∧
 (bif !lt
 then Q ip (ui (Wd.pc w) (Wd.B w) (Wd.U w) (Wd.D w) (Wd.S w) (Wd.C w) (Wd.F w) (Wd.W w) (fst f) (fst (snd f)) (fst (snd (snd f))) (fst (snd (snd (snd f)))) (snd (snd (snd (snd f)))))
 else (bif decide ((↑(length L):Int)>(40:Int))
 then Q ip (ui (Wd.pc w) (Wd.B w) (Wd.U w) (Wd.D w) (Wd.S w) (Wd.C w) (Wd.F w) (Wd.W w) (fst f) (fst (snd f)) (fst (snd (snd f))) (fst (snd (snd (snd f)))) (snd (snd (snd (snd f)))))
 else False))):=by kernel_rfl
theorem Ly (lt:Bool)(w:Wd)(f:Fl)(L:Bs)(R:(Nat→VO)→Prop)(PD:Nat × Int→VT→Prop)(WD:Nat × Int→Int→Int→Int→Bool→VT→Prop)(PM WM PR WR:Int→Int→Bool→VT→Prop)(Lp:Int→Bs→VT→Prop)(W:Int→VT→Prop)(Q:TV→VT→Prop):aH prog ae (L6 (.cells w.cells) (.cells (au f)) lt w f R PD WD PM WM PR WR) bx 300 (L7 (.cells w.cells) (.cells (au f)) Lp W (ax prog rq 0)) 0 rq [.agg w.cells,.agg (au f),.vec 1 L .none] jk Q=
 ((@Eq (List TV) (uj (Wd.pc w) (Wd.B w) (Wd.U w) (Wd.D w) (Wd.S w) (Wd.C w) (Wd.F w) (Wd.W w)) (uj (Wd.pc w) (Wd.B w) (Wd.U w) (Wd.D w) (Wd.S w) (Wd.C w) (Wd.F w) (Wd.W w)))∧
 (bif !lt
 then Q ip (ui (Wd.pc w) (Wd.B w) (Wd.U w) (Wd.D w) (Wd.S w) (Wd.C w) (Wd.F w) (Wd.W w) (fst f) (fst (snd f)) (fst (snd (snd f))) (fst (snd (snd (snd f)))) (snd (snd (snd (snd f)))))
 else (bif decide ((↑(length L):Int)>(40:Int))
 then Q ip (ui (Wd.pc w) (Wd.B w) (Wd.U w) (Wd.D w) (Wd.S w) (Wd.C w) (Wd.F w) (Wd.W w) (fst f) (fst (snd f)) (fst (snd (snd f))) (fst (snd (snd (snd f)))) (snd (snd (snd (snd f)))))
 else (((@Eq (Nat) 0 0)∧
 ((@Eq (List TV) (uj (Wd.pc w) (Wd.B w) (Wd.U w) (Wd.D w) (Wd.S w) (Wd.C w) (Wd.F w) (Wd.W w)) (uj (Wd.pc w) (Wd.B w) (Wd.U w) (Wd.D w) (Wd.S w) (Wd.C w) (Wd.F w) (Wd.W w)))∧
 (@Eq (VT) (ui (Wd.pc w) (Wd.B w) (Wd.U w) (Wd.D w) (Wd.S w) (Wd.C w) (Wd.F w) (Wd.W w) (fst f) (fst (snd f)) (fst (snd (snd f))) (fst (snd (snd (snd f)))) (snd (snd (snd (snd f))))) (ui (Wd.pc w) (Wd.B w) (Wd.U w) (Wd.D w) (Wd.S w) (Wd.C w) (Wd.F w) (Wd.W w) (fst f) (fst (snd f)) (fst (snd (snd f))) (fst (snd (snd (snd f)))) (snd (snd (snd (snd f))))))))∧
 (∀y:Nat→VO,(R (y)→(∃g:Nat × Int,(((@Eq (Nat) 0 0)∧
 ((@Eq (TV) (cR (fst f) (fst (snd f)) (fst (snd (snd f))) (fst (snd (snd (snd f)))) (snd (snd (snd (snd f))))) (cR (fst f) (fst (snd f)) (fst (snd (snd f))) (fst (snd (snd (snd f)))) (snd (snd (snd (snd f))))))∧
 ((@Eq (Bool) false false)∧
 PD (g) ⟨[(.cells [(.val (.int .i64 (Wd.pc w))),(.vec 3 (Wd.B w) .none),(.vec 1 (Wd.U w) .none),(.vec 1 (Wd.D w) .none),(.vec 3 (Wd.S w) .none),(.vec 1 (Wd.C w) .none),(.vec 5 (Wd.F w) .none),(.vec 1 (Wd.W w) .none)]),(.cells [(.val (.int .i64 (fst f))),(.val (.int .u32 (fst (snd f)))),(.val (.int .u32 (fst (snd (snd f))))),(.val (.int .i64 (fst (snd (snd (snd f)))))),(.val (.int .i64 (snd (snd (snd (snd f))))))])]++(aB y++ [(y (101:Nat)),(y (102:Nat)),(y (103:Nat)),(y (104:Nat)),(y (105:Nat)),(y (106:Nat)),(y (107:Nat)),(y (108:Nat)),(y (109:Nat)),(y (110:Nat)),(y (111:Nat)),(y (112:Nat)),(y (113:Nat)),(y (114:Nat)),(.cells [(.ptr 6 0),(.ptr 8 0),(.ptr 11 0),(.ptr 12 0),(.ptr 13 0),(.ptr 14 0)])]),[]⟩)))∧
 (∀k:Int,(∀d:Int,(∀s:Int,(∀n:Bool,(∀y':Nat→VO,(∀e':VO,(WD (g) (k) (d) (s) (n) ⟨[(jZ (Wd.pc w) (Wd.B w) (Wd.U w) (Wd.D w) (Wd.S w) (Wd.C w) (Wd.F w) (Wd.W w)),(iY (fst f) (fst (snd f)) (fst (snd (snd f))) (fst (snd (snd (snd f)))) (snd (snd (snd (snd f))))),y' (nat_lit 0),y' (nat_lit 1),y' (nat_lit 2),y' (nat_lit 3),y' (nat_lit 4),y' (nat_lit 5),y' (nat_lit 6),y' (nat_lit 7),y' (nat_lit 8),y' (nat_lit 9),y' (nat_lit 10),y' (nat_lit 11),y' (nat_lit 12),y' (nat_lit 13),y' (nat_lit 14),y' (nat_lit 15),y' (nat_lit 16),y' (nat_lit 17),y' (nat_lit 18),y' (nat_lit 19),y' (nat_lit 20),y' (nat_lit 21),y' (nat_lit 22),y' (nat_lit 23),y' (nat_lit 24),y' (nat_lit 25),y' (nat_lit 26),y' (nat_lit 27),y' (nat_lit 28),y' (nat_lit 29),y' (nat_lit 30),y' (nat_lit 31),y' (nat_lit 32),y' (nat_lit 33),y' (nat_lit 34),y' (nat_lit 35),y' (nat_lit 36),y' (nat_lit 37),y' (nat_lit 38),y' (nat_lit 39),y' (nat_lit 40),y' (nat_lit 41),y' (nat_lit 42),y' (nat_lit 43),y' (nat_lit 44),y' (nat_lit 45),y' (nat_lit 46),y' (nat_lit 47),y' (nat_lit 48),y' (nat_lit 49),y' (nat_lit 50),y' (nat_lit 51),y' (nat_lit 52),y' (nat_lit 53),y' (nat_lit 54),y' (nat_lit 55),y' (nat_lit 56),y' (nat_lit 57),y' (nat_lit 58),y' (nat_lit 59),y' (nat_lit 60),y' (nat_lit 61),y' (nat_lit 62),y' (nat_lit 63),y' (nat_lit 64),y' (nat_lit 65),y' (nat_lit 66),y' (nat_lit 67),y' (nat_lit 68),y' (nat_lit 69),y' (nat_lit 70),y' (nat_lit 71),y' (nat_lit 72),y' (nat_lit 73),y' (nat_lit 74),y' (nat_lit 75),y' (nat_lit 76),y' (nat_lit 77),y' (nat_lit 78),y' (nat_lit 79),y' (nat_lit 80),y' (nat_lit 81),y' (nat_lit 82),y' (nat_lit 83),y' (nat_lit 84),y' (nat_lit 85),y' (nat_lit 86),y' (nat_lit 87),y' (nat_lit 88),y' (nat_lit 89),y' (nat_lit 90),y' (nat_lit 91),y' (nat_lit 92),y' (nat_lit 93),y' (nat_lit 94),y' (nat_lit 95),y' (nat_lit 96),y' (nat_lit 97),y' (nat_lit 98),y' (nat_lit 99),y' (nat_lit 100),y' (101:Nat),y' (102:Nat),y' (103:Nat),y' (104:Nat),y' (105:Nat),y' (106:Nat),y' (107:Nat),y' (108:Nat),y' (109:Nat),y' (110:Nat),y' (111:Nat),y' (112:Nat),y' (113:Nat),y' (114:Nat),qX,e'],[]⟩→(bif bN neq (k6 k (1:Int))
 then Q ip (nO (Wd.pc w) (Wd.B w) (Wd.U w) (Wd.D w) (Wd.S w) (Wd.C w) (Wd.F w) (Wd.W w) (fst f) (fst (snd f)) (fst (snd (snd f))) (fst (snd (snd (snd f)))) (snd (snd (snd (snd f)))) (y' (nat_lit 0)) (y' (nat_lit 1)) (y' (nat_lit 2)) (y' (nat_lit 3)) (y' (nat_lit 4)) (y' (nat_lit 5)) (y' (nat_lit 6)) (y' (nat_lit 7)) (y' (nat_lit 8)) (y' (nat_lit 9)) (y' (nat_lit 10)) (y' (nat_lit 11)) (y' (nat_lit 12)) (y' (nat_lit 13)) (y' (nat_lit 14)) (y' (nat_lit 15)) (y' (nat_lit 16)) (y' (nat_lit 17)) (y' (nat_lit 18)) (y' (nat_lit 19)) (y' (nat_lit 20)) (y' (nat_lit 21)) (y' (nat_lit 22)) (y' (nat_lit 23)) (y' (nat_lit 24)) (y' (nat_lit 25)) (y' (nat_lit 26)) (y' (nat_lit 27)) (y' (nat_lit 28)) (y' (nat_lit 29)) (y' (nat_lit 30)) (y' (nat_lit 31)) (y' (nat_lit 32)) (y' (nat_lit 33)) (y' (nat_lit 34)) (y' (nat_lit 35)) (y' (nat_lit 36)) (y' (nat_lit 37)) (y' (nat_lit 38)) (y' (nat_lit 39)) (y' (nat_lit 40)) (y' (nat_lit 41)) (y' (nat_lit 42)) (y' (nat_lit 43)) (y' (nat_lit 44)) (y' (nat_lit 45)) (y' (nat_lit 46)) (y' (nat_lit 47)) (y' (nat_lit 48)) (y' (nat_lit 49)) (y' (nat_lit 50)) (y' (nat_lit 51)) (y' (nat_lit 52)) (y' (nat_lit 53)) (y' (nat_lit 54)) (y' (nat_lit 55)) (y' (nat_lit 56)) (y' (nat_lit 57)) (y' (nat_lit 58)) (y' (nat_lit 59)) (y' (nat_lit 60)) (y' (nat_lit 61)) (y' (nat_lit 62)) (y' (nat_lit 63)) (y' (nat_lit 64)) (y' (nat_lit 65)) (y' (nat_lit 66)) (y' (nat_lit 67)) (y' (nat_lit 68)) (y' (nat_lit 69)) (y' (nat_lit 70)) (y' (nat_lit 71)) (y' (nat_lit 72)) (y' (nat_lit 73)) (y' (nat_lit 74)) (y' (nat_lit 75)) (y' (nat_lit 76)) (y' (nat_lit 77)) (y' (nat_lit 78)) (y' (nat_lit 79)) (y' (nat_lit 80)) (y' (nat_lit 81)) (y' (nat_lit 82)) (y' (nat_lit 83)) (y' (nat_lit 84)) (y' (nat_lit 85)) (y' (nat_lit 86)) (y' (nat_lit 87)) (y' (nat_lit 88)) (y' (nat_lit 89)) (y' (nat_lit 90)) (y' (nat_lit 91)) (y' (nat_lit 92)) (y' (nat_lit 93)) (y' (nat_lit 94)) (y' (nat_lit 95)) (y' (nat_lit 96)) (y' (nat_lit 97)) (y' (nat_lit 98)) (y' (nat_lit 99)) (y' (nat_lit 100)) (y' (101:Nat)) (y' (102:Nat)) (y' (103:Nat)) (y' (104:Nat)) (y' (105:Nat)) (y' (106:Nat)) (y' (107:Nat)) (y' (108:Nat)) (y' (109:Nat)) (y' (110:Nat)) (y' (111:Nat)) (y' (112:Nat)) (y' (113:Nat)) (y' (114:Nat)) e' k d s n)
 else (∃g_24:Int,(((@Eq (Nat) 0 0)∧
 PR (g_24) (d) true (nO (Wd.pc w) (Wd.B w) (Wd.U w) (Wd.D w) (Wd.S w) (Wd.C w) (Wd.F w) (Wd.W w) (fst f) (fst (snd f)) (fst (snd (snd f))) (fst (snd (snd (snd f)))) (snd (snd (snd (snd f)))) (y' (nat_lit 0)) (y' (nat_lit 1)) (y' (nat_lit 2)) (y' (nat_lit 3)) (y' (nat_lit 4)) (y' (nat_lit 5)) (y' (nat_lit 6)) (y' (nat_lit 7)) (y' (nat_lit 8)) (y' (nat_lit 9)) (y' (nat_lit 10)) (y' (nat_lit 11)) (y' (nat_lit 12)) (y' (nat_lit 13)) (y' (nat_lit 14)) (y' (nat_lit 15)) (y' (nat_lit 16)) (y' (nat_lit 17)) (y' (nat_lit 18)) (y' (nat_lit 19)) (y' (nat_lit 20)) (y' (nat_lit 21)) (y' (nat_lit 22)) (y' (nat_lit 23)) (y' (nat_lit 24)) (y' (nat_lit 25)) (y' (nat_lit 26)) (y' (nat_lit 27)) (y' (nat_lit 28)) (y' (nat_lit 29)) (y' (nat_lit 30)) (y' (nat_lit 31)) (y' (nat_lit 32)) (y' (nat_lit 33)) (y' (nat_lit 34)) (y' (nat_lit 35)) (y' (nat_lit 36)) (y' (nat_lit 37)) (y' (nat_lit 38)) (y' (nat_lit 39)) (y' (nat_lit 40)) (y' (nat_lit 41)) (y' (nat_lit 42)) (y' (nat_lit 43)) (y' (nat_lit 44)) (y' (nat_lit 45)) (y' (nat_lit 46)) (y' (nat_lit 47)) (y' (nat_lit 48)) (y' (nat_lit 49)) (y' (nat_lit 50)) (y' (nat_lit 51)) (y' (nat_lit 52)) (y' (nat_lit 53)) (y' (nat_lit 54)) (y' (nat_lit 55)) (y' (nat_lit 56)) (y' (nat_lit 57)) (y' (nat_lit 58)) (y' (nat_lit 59)) (y' (nat_lit 60)) (y' (nat_lit 61)) (y' (nat_lit 62)) (y' (nat_lit 63)) (y' (nat_lit 64)) (y' (nat_lit 65)) (y' (nat_lit 66)) (y' (nat_lit 67)) (y' (nat_lit 68)) (y' (nat_lit 69)) (y' (nat_lit 70)) (y' (nat_lit 71)) (y' (nat_lit 72)) (y' (nat_lit 73)) (y' (nat_lit 74)) (y' (nat_lit 75)) (y' (nat_lit 76)) (y' (nat_lit 77)) (y' (nat_lit 78)) (y' (nat_lit 79)) (y' (nat_lit 80)) (y' (nat_lit 81)) (y' (nat_lit 82)) (y' (nat_lit 83)) (y' (nat_lit 84)) (y' (nat_lit 85)) (y' (nat_lit 86)) (y' (nat_lit 87)) (y' (nat_lit 88)) (y' (nat_lit 89)) (y' (nat_lit 90)) (y' (nat_lit 91)) (y' (nat_lit 92)) (y' (nat_lit 93)) (y' (nat_lit 94)) (y' (nat_lit 95)) (y' (nat_lit 96)) (y' (nat_lit 97)) (y' (nat_lit 98)) (y' (nat_lit 99)) (y' (nat_lit 100)) (y' (101:Nat)) (y' (102:Nat)) (y' (103:Nat)) (y' (104:Nat)) (y' (105:Nat)) (y' (106:Nat)) (y' (107:Nat)) (y' (108:Nat)) (y' (109:Nat)) (y' (110:Nat)) (y' (111:Nat)) (y' (112:Nat)) (y' (113:Nat)) (y' (114:Nat)) e' k d s n))∧
 (∀c:Int,(∀y'_26:Nat→VO,(∀e'_27:VO,(WR (g_24) (d) true (nO (Wd.pc w) (Wd.B w) (Wd.U w) (Wd.D w) (Wd.S w) (Wd.C w) (Wd.F w) (Wd.W w) (fst f) (fst (snd f)) (fst (snd (snd f))) (fst (snd (snd (snd f)))) (snd (snd (snd (snd f)))) (y'_26 (nat_lit 0)) (y'_26 (nat_lit 1)) (y'_26 (nat_lit 2)) (y'_26 (nat_lit 3)) (y'_26 (nat_lit 4)) (y'_26 (nat_lit 5)) (y'_26 (nat_lit 6)) (y'_26 (nat_lit 7)) (y'_26 (nat_lit 8)) (y'_26 (nat_lit 9)) (y'_26 (nat_lit 10)) (y'_26 (nat_lit 11)) (y'_26 (nat_lit 12)) (y'_26 (nat_lit 13)) (y'_26 (nat_lit 14)) (y'_26 (nat_lit 15)) (y'_26 (nat_lit 16)) (y'_26 (nat_lit 17)) (y'_26 (nat_lit 18)) (y'_26 (nat_lit 19)) (y'_26 (nat_lit 20)) (y'_26 (nat_lit 21)) (y'_26 (nat_lit 22)) (y'_26 (nat_lit 23)) (y'_26 (nat_lit 24)) (y'_26 (nat_lit 25)) (y'_26 (nat_lit 26)) (y'_26 (nat_lit 27)) (y'_26 (nat_lit 28)) (y'_26 (nat_lit 29)) (y'_26 (nat_lit 30)) (y'_26 (nat_lit 31)) (y'_26 (nat_lit 32)) (y'_26 (nat_lit 33)) (y'_26 (nat_lit 34)) (y'_26 (nat_lit 35)) (y'_26 (nat_lit 36)) (y'_26 (nat_lit 37)) (y'_26 (nat_lit 38)) (y'_26 (nat_lit 39)) (y'_26 (nat_lit 40)) (y'_26 (nat_lit 41)) (y'_26 (nat_lit 42)) (y'_26 (nat_lit 43)) (y'_26 (nat_lit 44)) (y'_26 (nat_lit 45)) (y'_26 (nat_lit 46)) (y'_26 (nat_lit 47)) (y'_26 (nat_lit 48)) (y'_26 (nat_lit 49)) (y'_26 (nat_lit 50)) (y'_26 (nat_lit 51)) (y'_26 (nat_lit 52)) (y'_26 (nat_lit 53)) (y'_26 (nat_lit 54)) (y'_26 (nat_lit 55)) (y'_26 (nat_lit 56)) (y'_26 (nat_lit 57)) (y'_26 (nat_lit 58)) (y'_26 (nat_lit 59)) (y'_26 (nat_lit 60)) (y'_26 (nat_lit 61)) (y'_26 (nat_lit 62)) (y'_26 (nat_lit 63)) (y'_26 (nat_lit 64)) (y'_26 (nat_lit 65)) (y'_26 (nat_lit 66)) (y'_26 (nat_lit 67)) (y'_26 (nat_lit 68)) (y'_26 (nat_lit 69)) (y'_26 (nat_lit 70)) (y'_26 (nat_lit 71)) (y'_26 (nat_lit 72)) (y'_26 (nat_lit 73)) (y'_26 (nat_lit 74)) (y'_26 (nat_lit 75)) (y'_26 (nat_lit 76)) (y'_26 (nat_lit 77)) (y'_26 (nat_lit 78)) (y'_26 (nat_lit 79)) (y'_26 (nat_lit 80)) (y'_26 (nat_lit 81)) (y'_26 (nat_lit 82)) (y'_26 (nat_lit 83)) (y'_26 (nat_lit 84)) (y'_26 (nat_lit 85)) (y'_26 (nat_lit 86)) (y'_26 (nat_lit 87)) (y'_26 (nat_lit 88)) (y'_26 (nat_lit 89)) (y'_26 (nat_lit 90)) (y'_26 (nat_lit 91)) (y'_26 (nat_lit 92)) (y'_26 (nat_lit 93)) (y'_26 (nat_lit 94)) (y'_26 (nat_lit 95)) (y'_26 (nat_lit 96)) (y'_26 (nat_lit 97)) (y'_26 (nat_lit 98)) (y'_26 (nat_lit 99)) (y'_26 (nat_lit 100)) (y'_26 (101:Nat)) (y'_26 (102:Nat)) (y'_26 (103:Nat)) (y'_26 (104:Nat)) (y'_26 (105:Nat)) (y'_26 (106:Nat)) (y'_26 (107:Nat)) (y'_26 (108:Nat)) (y'_26 (109:Nat)) (y'_26 (110:Nat)) (y'_26 (111:Nat)) (y'_26 (112:Nat)) (y'_26 (113:Nat)) (y'_26 (114:Nat)) e'_27 k d s n)→((ax prog rq (0:Nat)=ax prog rq (0:Nat))∧
 (∃g_29:Int,(((@Eq (Option Nat) .none .none)∧
 ((@Eq (Nat) 0 0)∧
 ((@Eq (List Nat) [] [])∧
 ((@Eq (Bool) true true)∧
 ((@Eq (Nat) 1 1)∧
 ((@Eq (Nat) 117 117)∧
 ((@Eq (Nat) 119 119)∧
 ((@Eq (Int) ((↑(length L):Int)) ((↑(length L):Int)))∧
 ((@Eq (Int) 0 0)∧
 Lp (g_29) (L) (nO (Wd.pc w) (Wd.B w) (Wd.U w) (Wd.D w) (Wd.S w) (Wd.C w) (Wd.F w) (Wd.W w) (fst f) (fst (snd f)) (fst (snd (snd f))) (fst (snd (snd (snd f)))) (snd (snd (snd (snd f)))) (y'_26 (nat_lit 0)) (y'_26 (nat_lit 1)) (y'_26 (nat_lit 2)) (y'_26 (nat_lit 3)) (y'_26 (nat_lit 4)) (y'_26 (nat_lit 5)) (y'_26 (nat_lit 6)) (y'_26 (nat_lit 7)) (y'_26 (nat_lit 8)) (y'_26 (nat_lit 9)) (y'_26 (nat_lit 10)) (y'_26 (nat_lit 11)) (y'_26 (nat_lit 12)) (y'_26 (nat_lit 13)) (y'_26 (nat_lit 14)) (y'_26 (nat_lit 15)) (y'_26 (nat_lit 16)) (y'_26 (nat_lit 17)) (y'_26 (nat_lit 18)) (y'_26 (nat_lit 19)) (y'_26 (nat_lit 20)) (y'_26 (nat_lit 21)) (y'_26 (nat_lit 22)) (y'_26 (nat_lit 23)) (y'_26 (nat_lit 24)) (y'_26 (nat_lit 25)) (y'_26 (nat_lit 26)) (y'_26 (nat_lit 27)) (y'_26 (nat_lit 28)) (y'_26 (nat_lit 29)) (y'_26 (nat_lit 30)) (y'_26 (nat_lit 31)) (y'_26 (nat_lit 32)) (y'_26 (nat_lit 33)) (y'_26 (nat_lit 34)) (y'_26 (nat_lit 35)) (y'_26 (nat_lit 36)) (y'_26 (nat_lit 37)) (y'_26 (nat_lit 38)) (y'_26 (nat_lit 39)) (y'_26 (nat_lit 40)) (y'_26 (nat_lit 41)) (y'_26 (nat_lit 42)) (y'_26 (nat_lit 43)) (y'_26 (nat_lit 44)) (y'_26 (nat_lit 45)) (y'_26 (nat_lit 46)) (y'_26 (nat_lit 47)) (y'_26 (nat_lit 48)) (y'_26 (nat_lit 49)) (y'_26 (nat_lit 50)) (y'_26 (nat_lit 51)) (y'_26 (nat_lit 52)) (y'_26 (nat_lit 53)) (y'_26 (nat_lit 54)) (y'_26 (nat_lit 55)) (y'_26 (nat_lit 56)) (y'_26 (nat_lit 57)) (y'_26 (nat_lit 58)) (y'_26 (nat_lit 59)) (y'_26 (nat_lit 60)) (y'_26 (nat_lit 61)) (y'_26 (nat_lit 62)) (y'_26 (nat_lit 63)) (y'_26 (nat_lit 64)) (y'_26 (nat_lit 65)) (y'_26 (nat_lit 66)) (y'_26 (nat_lit 67)) (y'_26 (nat_lit 68)) (y'_26 (nat_lit 69)) (y'_26 (nat_lit 70)) (y'_26 (nat_lit 71)) (y'_26 (nat_lit 72)) (y'_26 (nat_lit 73)) (y'_26 (nat_lit 74)) (y'_26 (nat_lit 75)) (y'_26 (nat_lit 76)) (y'_26 (nat_lit 77)) (y'_26 (nat_lit 78)) (y'_26 (nat_lit 79)) (y'_26 (nat_lit 80)) (y'_26 (nat_lit 81)) (y'_26 (nat_lit 82)) (y'_26 (nat_lit 83)) (y'_26 (nat_lit 84)) (y'_26 (nat_lit 85)) (y'_26 (nat_lit 86)) (y'_26 (nat_lit 87)) (y'_26 (nat_lit 88)) (y'_26 (nat_lit 89)) (y'_26 (nat_lit 90)) (y'_26 (nat_lit 91)) (y'_26 (nat_lit 92)) (y'_26 (nat_lit 93)) (y'_26 (nat_lit 94)) (y'_26 (nat_lit 95)) (y'_26 (nat_lit 96)) (y'_26 (nat_lit 97)) (y'_26 (nat_lit 98)) (y'_26 (nat_lit 99)) (y'_26 (nat_lit 100)) (y'_26 (101:Nat)) (y'_26 (102:Nat)) (y'_26 (103:Nat)) (y'_26 (104:Nat)) (y'_26 (105:Nat)) (y'_26 (106:Nat)) (y'_26 (107:Nat)) (y'_26 (108:Nat)) (y'_26 (109:Nat)) (y'_26 (110:Nat)) (y'_26 (111:Nat)) (y'_26 (112:Nat)) (y'_26 (113:Nat)) (y'_26 (114:Nat)) e'_27 k d s n))))))))))∧
 (∀y'_30:Nat→VO,(∀e'_31:VO,(W (g_29) (nO (Wd.pc w) (Wd.B w) (Wd.U w) (Wd.D w) (Wd.S w) (Wd.C w) (Wd.F w) (Wd.W w) (fst f) (fst (snd f)) (fst (snd (snd f))) (fst (snd (snd (snd f)))) (snd (snd (snd (snd f)))) (y'_30 (nat_lit 0)) (y'_30 (nat_lit 1)) (y'_30 (nat_lit 2)) (y'_30 (nat_lit 3)) (y'_30 (nat_lit 4)) (y'_30 (nat_lit 5)) (y'_30 (nat_lit 6)) (y'_30 (nat_lit 7)) (y'_30 (nat_lit 8)) (y'_30 (nat_lit 9)) (y'_30 (nat_lit 10)) (y'_30 (nat_lit 11)) (y'_30 (nat_lit 12)) (y'_30 (nat_lit 13)) (y'_30 (nat_lit 14)) (y'_30 (nat_lit 15)) (y'_30 (nat_lit 16)) (y'_30 (nat_lit 17)) (y'_30 (nat_lit 18)) (y'_30 (nat_lit 19)) (y'_30 (nat_lit 20)) (y'_30 (nat_lit 21)) (y'_30 (nat_lit 22)) (y'_30 (nat_lit 23)) (y'_30 (nat_lit 24)) (y'_30 (nat_lit 25)) (y'_30 (nat_lit 26)) (y'_30 (nat_lit 27)) (y'_30 (nat_lit 28)) (y'_30 (nat_lit 29)) (y'_30 (nat_lit 30)) (y'_30 (nat_lit 31)) (y'_30 (nat_lit 32)) (y'_30 (nat_lit 33)) (y'_30 (nat_lit 34)) (y'_30 (nat_lit 35)) (y'_30 (nat_lit 36)) (y'_30 (nat_lit 37)) (y'_30 (nat_lit 38)) (y'_30 (nat_lit 39)) (y'_30 (nat_lit 40)) (y'_30 (nat_lit 41)) (y'_30 (nat_lit 42)) (y'_30 (nat_lit 43)) (y'_30 (nat_lit 44)) (y'_30 (nat_lit 45)) (y'_30 (nat_lit 46)) (y'_30 (nat_lit 47)) (y'_30 (nat_lit 48)) (y'_30 (nat_lit 49)) (y'_30 (nat_lit 50)) (y'_30 (nat_lit 51)) (y'_30 (nat_lit 52)) (y'_30 (nat_lit 53)) (y'_30 (nat_lit 54)) (y'_30 (nat_lit 55)) (y'_30 (nat_lit 56)) (y'_30 (nat_lit 57)) (y'_30 (nat_lit 58)) (y'_30 (nat_lit 59)) (y'_30 (nat_lit 60)) (y'_30 (nat_lit 61)) (y'_30 (nat_lit 62)) (y'_30 (nat_lit 63)) (y'_30 (nat_lit 64)) (y'_30 (nat_lit 65)) (y'_30 (nat_lit 66)) (y'_30 (nat_lit 67)) (y'_30 (nat_lit 68)) (y'_30 (nat_lit 69)) (y'_30 (nat_lit 70)) (y'_30 (nat_lit 71)) (y'_30 (nat_lit 72)) (y'_30 (nat_lit 73)) (y'_30 (nat_lit 74)) (y'_30 (nat_lit 75)) (y'_30 (nat_lit 76)) (y'_30 (nat_lit 77)) (y'_30 (nat_lit 78)) (y'_30 (nat_lit 79)) (y'_30 (nat_lit 80)) (y'_30 (nat_lit 81)) (y'_30 (nat_lit 82)) (y'_30 (nat_lit 83)) (y'_30 (nat_lit 84)) (y'_30 (nat_lit 85)) (y'_30 (nat_lit 86)) (y'_30 (nat_lit 87)) (y'_30 (nat_lit 88)) (y'_30 (nat_lit 89)) (y'_30 (nat_lit 90)) (y'_30 (nat_lit 91)) (y'_30 (nat_lit 92)) (y'_30 (nat_lit 93)) (y'_30 (nat_lit 94)) (y'_30 (nat_lit 95)) (y'_30 (nat_lit 96)) (y'_30 (nat_lit 97)) (y'_30 (nat_lit 98)) (y'_30 (nat_lit 99)) (y'_30 (nat_lit 100)) (y'_30 (101:Nat)) (y'_30 (102:Nat)) (y'_30 (103:Nat)) (y'_30 (104:Nat)) (y'_30 (105:Nat)) (y'_30 (106:Nat)) (y'_30 (107:Nat)) (y'_30 (108:Nat)) (y'_30 (109:Nat)) (y'_30 (110:Nat)) (y'_30 (111:Nat)) (y'_30 (112:Nat)) (y'_30 (113:Nat)) (y'_30 (114:Nat)) e'_31 k d s n)→(∃g_33:Int,(((@Eq (Nat) 0 0)∧
 PM (g_33) (d) false (nO (Wd.pc w) (Wd.B w) (Wd.U w) (Wd.D w) (Wd.S w) (Wd.C w) (Wd.F w) (Wd.W w) (fst f) (fst (snd f)) (fst (snd (snd f))) (fst (snd (snd (snd f)))) (snd (snd (snd (snd f)))) (y'_30 (nat_lit 0)) (y'_30 (nat_lit 1)) (y'_30 (nat_lit 2)) (y'_30 (nat_lit 3)) (y'_30 (nat_lit 4)) (y'_30 (nat_lit 5)) (y'_30 (nat_lit 6)) (y'_30 (nat_lit 7)) (y'_30 (nat_lit 8)) (y'_30 (nat_lit 9)) (y'_30 (nat_lit 10)) (y'_30 (nat_lit 11)) (y'_30 (nat_lit 12)) (y'_30 (nat_lit 13)) (y'_30 (nat_lit 14)) (y'_30 (nat_lit 15)) (y'_30 (nat_lit 16)) (y'_30 (nat_lit 17)) (y'_30 (nat_lit 18)) (y'_30 (nat_lit 19)) (y'_30 (nat_lit 20)) (y'_30 (nat_lit 21)) (y'_30 (nat_lit 22)) (y'_30 (nat_lit 23)) (y'_30 (nat_lit 24)) (y'_30 (nat_lit 25)) (y'_30 (nat_lit 26)) (y'_30 (nat_lit 27)) (y'_30 (nat_lit 28)) (y'_30 (nat_lit 29)) (y'_30 (nat_lit 30)) (y'_30 (nat_lit 31)) (y'_30 (nat_lit 32)) (y'_30 (nat_lit 33)) (y'_30 (nat_lit 34)) (y'_30 (nat_lit 35)) (y'_30 (nat_lit 36)) (y'_30 (nat_lit 37)) (y'_30 (nat_lit 38)) (y'_30 (nat_lit 39)) (y'_30 (nat_lit 40)) (y'_30 (nat_lit 41)) (y'_30 (nat_lit 42)) (y'_30 (nat_lit 43)) (y'_30 (nat_lit 44)) (y'_30 (nat_lit 45)) (y'_30 (nat_lit 46)) (y'_30 (nat_lit 47)) (y'_30 (nat_lit 48)) (y'_30 (nat_lit 49)) (y'_30 (nat_lit 50)) (y'_30 (nat_lit 51)) (y'_30 (nat_lit 52)) (y'_30 (nat_lit 53)) (y'_30 (nat_lit 54)) (y'_30 (nat_lit 55)) (y'_30 (nat_lit 56)) (y'_30 (nat_lit 57)) (y'_30 (nat_lit 58)) (y'_30 (nat_lit 59)) (y'_30 (nat_lit 60)) (y'_30 (nat_lit 61)) (y'_30 (nat_lit 62)) (y'_30 (nat_lit 63)) (y'_30 (nat_lit 64)) (y'_30 (nat_lit 65)) (y'_30 (nat_lit 66)) (y'_30 (nat_lit 67)) (y'_30 (nat_lit 68)) (y'_30 (nat_lit 69)) (y'_30 (nat_lit 70)) (y'_30 (nat_lit 71)) (y'_30 (nat_lit 72)) (y'_30 (nat_lit 73)) (y'_30 (nat_lit 74)) (y'_30 (nat_lit 75)) (y'_30 (nat_lit 76)) (y'_30 (nat_lit 77)) (y'_30 (nat_lit 78)) (y'_30 (nat_lit 79)) (y'_30 (nat_lit 80)) (y'_30 (nat_lit 81)) (y'_30 (nat_lit 82)) (y'_30 (nat_lit 83)) (y'_30 (nat_lit 84)) (y'_30 (nat_lit 85)) (y'_30 (nat_lit 86)) (y'_30 (nat_lit 87)) (y'_30 (nat_lit 88)) (y'_30 (nat_lit 89)) (y'_30 (nat_lit 90)) (y'_30 (nat_lit 91)) (y'_30 (nat_lit 92)) (y'_30 (nat_lit 93)) (y'_30 (nat_lit 94)) (y'_30 (nat_lit 95)) (y'_30 (nat_lit 96)) (y'_30 (nat_lit 97)) (y'_30 (nat_lit 98)) (y'_30 (nat_lit 99)) (y'_30 (nat_lit 100)) (y'_30 (101:Nat)) (y'_30 (102:Nat)) (y'_30 (103:Nat)) (y'_30 (104:Nat)) (y'_30 (105:Nat)) (y'_30 (106:Nat)) (y'_30 (107:Nat)) (y'_30 (108:Nat)) (y'_30 (109:Nat)) (y'_30 (110:Nat)) (y'_30 (111:Nat)) (y'_30 (112:Nat)) (y'_30 (113:Nat)) (y'_30 (114:Nat)) e'_31 k d s n))∧
 (∀c_34:Int,(∀y'_35:Nat→VO,(∀e'_36:VO,(WM (g_33) (d) false (nO (Wd.pc w) (Wd.B w) (Wd.U w) (Wd.D w) (Wd.S w) (Wd.C w) (Wd.F w) (Wd.W w) (fst f) (fst (snd f)) (fst (snd (snd f))) (fst (snd (snd (snd f)))) (snd (snd (snd (snd f)))) (y'_35 (nat_lit 0)) (y'_35 (nat_lit 1)) (y'_35 (nat_lit 2)) (y'_35 (nat_lit 3)) (y'_35 (nat_lit 4)) (y'_35 (nat_lit 5)) (y'_35 (nat_lit 6)) (y'_35 (nat_lit 7)) (y'_35 (nat_lit 8)) (y'_35 (nat_lit 9)) (y'_35 (nat_lit 10)) (y'_35 (nat_lit 11)) (y'_35 (nat_lit 12)) (y'_35 (nat_lit 13)) (y'_35 (nat_lit 14)) (y'_35 (nat_lit 15)) (y'_35 (nat_lit 16)) (y'_35 (nat_lit 17)) (y'_35 (nat_lit 18)) (y'_35 (nat_lit 19)) (y'_35 (nat_lit 20)) (y'_35 (nat_lit 21)) (y'_35 (nat_lit 22)) (y'_35 (nat_lit 23)) (y'_35 (nat_lit 24)) (y'_35 (nat_lit 25)) (y'_35 (nat_lit 26)) (y'_35 (nat_lit 27)) (y'_35 (nat_lit 28)) (y'_35 (nat_lit 29)) (y'_35 (nat_lit 30)) (y'_35 (nat_lit 31)) (y'_35 (nat_lit 32)) (y'_35 (nat_lit 33)) (y'_35 (nat_lit 34)) (y'_35 (nat_lit 35)) (y'_35 (nat_lit 36)) (y'_35 (nat_lit 37)) (y'_35 (nat_lit 38)) (y'_35 (nat_lit 39)) (y'_35 (nat_lit 40)) (y'_35 (nat_lit 41)) (y'_35 (nat_lit 42)) (y'_35 (nat_lit 43)) (y'_35 (nat_lit 44)) (y'_35 (nat_lit 45)) (y'_35 (nat_lit 46)) (y'_35 (nat_lit 47)) (y'_35 (nat_lit 48)) (y'_35 (nat_lit 49)) (y'_35 (nat_lit 50)) (y'_35 (nat_lit 51)) (y'_35 (nat_lit 52)) (y'_35 (nat_lit 53)) (y'_35 (nat_lit 54)) (y'_35 (nat_lit 55)) (y'_35 (nat_lit 56)) (y'_35 (nat_lit 57)) (y'_35 (nat_lit 58)) (y'_35 (nat_lit 59)) (y'_35 (nat_lit 60)) (y'_35 (nat_lit 61)) (y'_35 (nat_lit 62)) (y'_35 (nat_lit 63)) (y'_35 (nat_lit 64)) (y'_35 (nat_lit 65)) (y'_35 (nat_lit 66)) (y'_35 (nat_lit 67)) (y'_35 (nat_lit 68)) (y'_35 (nat_lit 69)) (y'_35 (nat_lit 70)) (y'_35 (nat_lit 71)) (y'_35 (nat_lit 72)) (y'_35 (nat_lit 73)) (y'_35 (nat_lit 74)) (y'_35 (nat_lit 75)) (y'_35 (nat_lit 76)) (y'_35 (nat_lit 77)) (y'_35 (nat_lit 78)) (y'_35 (nat_lit 79)) (y'_35 (nat_lit 80)) (y'_35 (nat_lit 81)) (y'_35 (nat_lit 82)) (y'_35 (nat_lit 83)) (y'_35 (nat_lit 84)) (y'_35 (nat_lit 85)) (y'_35 (nat_lit 86)) (y'_35 (nat_lit 87)) (y'_35 (nat_lit 88)) (y'_35 (nat_lit 89)) (y'_35 (nat_lit 90)) (y'_35 (nat_lit 91)) (y'_35 (nat_lit 92)) (y'_35 (nat_lit 93)) (y'_35 (nat_lit 94)) (y'_35 (nat_lit 95)) (y'_35 (nat_lit 96)) (y'_35 (nat_lit 97)) (y'_35 (nat_lit 98)) (y'_35 (nat_lit 99)) (y'_35 (nat_lit 100)) (y'_35 (101:Nat)) (y'_35 (102:Nat)) (y'_35 (103:Nat)) (y'_35 (104:Nat)) (y'_35 (105:Nat)) (y'_35 (106:Nat)) (y'_35 (107:Nat)) (y'_35 (108:Nat)) (y'_35 (109:Nat)) (y'_35 (110:Nat)) (y'_35 (111:Nat)) (y'_35 (112:Nat)) (y'_35 (113:Nat)) (y'_35 (114:Nat)) e'_36 k d s n)→(∃g_38:Nat × Int,(((@Eq (Nat) 0 0)∧
 ((@Eq (TV) (cR (fst f) (fst (snd f)) (fst (snd (snd f))) (fst (snd (snd (snd f)))) (snd (snd (snd (snd f))))) (cR (fst f) (fst (snd f)) (fst (snd (snd f))) (fst (snd (snd (snd f)))) (snd (snd (snd (snd f))))))∧
 ((@Eq (Bool) false false)∧
 PD (g_38) (nO (Wd.pc w) (Wd.B w) (Wd.U w) (Wd.D w) (Wd.S w) (Wd.C w) (Wd.F w) (Wd.W w) (fst f) (fst (snd f)) (fst (snd (snd f))) (fst (snd (snd (snd f)))) (snd (snd (snd (snd f)))) (y'_35 (nat_lit 0)) (y'_35 (nat_lit 1)) (y'_35 (nat_lit 2)) (y'_35 (nat_lit 3)) (y'_35 (nat_lit 4)) (y'_35 (nat_lit 5)) (y'_35 (nat_lit 6)) (y'_35 (nat_lit 7)) (y'_35 (nat_lit 8)) (y'_35 (nat_lit 9)) (y'_35 (nat_lit 10)) (y'_35 (nat_lit 11)) (y'_35 (nat_lit 12)) (y'_35 (nat_lit 13)) (y'_35 (nat_lit 14)) (y'_35 (nat_lit 15)) (y'_35 (nat_lit 16)) (y'_35 (nat_lit 17)) (y'_35 (nat_lit 18)) (y'_35 (nat_lit 19)) (y'_35 (nat_lit 20)) (y'_35 (nat_lit 21)) (y'_35 (nat_lit 22)) (y'_35 (nat_lit 23)) (y'_35 (nat_lit 24)) (y'_35 (nat_lit 25)) (y'_35 (nat_lit 26)) (y'_35 (nat_lit 27)) (y'_35 (nat_lit 28)) (y'_35 (nat_lit 29)) (y'_35 (nat_lit 30)) (y'_35 (nat_lit 31)) (y'_35 (nat_lit 32)) (y'_35 (nat_lit 33)) (y'_35 (nat_lit 34)) (y'_35 (nat_lit 35)) (y'_35 (nat_lit 36)) (y'_35 (nat_lit 37)) (y'_35 (nat_lit 38)) (y'_35 (nat_lit 39)) (y'_35 (nat_lit 40)) (y'_35 (nat_lit 41)) (y'_35 (nat_lit 42)) (y'_35 (nat_lit 43)) (y'_35 (nat_lit 44)) (y'_35 (nat_lit 45)) (y'_35 (nat_lit 46)) (y'_35 (nat_lit 47)) (y'_35 (nat_lit 48)) (y'_35 (nat_lit 49)) (y'_35 (nat_lit 50)) (y'_35 (nat_lit 51)) (y'_35 (nat_lit 52)) (y'_35 (nat_lit 53)) (y'_35 (nat_lit 54)) (y'_35 (nat_lit 55)) (y'_35 (nat_lit 56)) (y'_35 (nat_lit 57)) (y'_35 (nat_lit 58)) (y'_35 (nat_lit 59)) (y'_35 (nat_lit 60)) (y'_35 (nat_lit 61)) (y'_35 (nat_lit 62)) (y'_35 (nat_lit 63)) (y'_35 (nat_lit 64)) (y'_35 (nat_lit 65)) (y'_35 (nat_lit 66)) (y'_35 (nat_lit 67)) (y'_35 (nat_lit 68)) (y'_35 (nat_lit 69)) (y'_35 (nat_lit 70)) (y'_35 (nat_lit 71)) (y'_35 (nat_lit 72)) (y'_35 (nat_lit 73)) (y'_35 (nat_lit 74)) (y'_35 (nat_lit 75)) (y'_35 (nat_lit 76)) (y'_35 (nat_lit 77)) (y'_35 (nat_lit 78)) (y'_35 (nat_lit 79)) (y'_35 (nat_lit 80)) (y'_35 (nat_lit 81)) (y'_35 (nat_lit 82)) (y'_35 (nat_lit 83)) (y'_35 (nat_lit 84)) (y'_35 (nat_lit 85)) (y'_35 (nat_lit 86)) (y'_35 (nat_lit 87)) (y'_35 (nat_lit 88)) (y'_35 (nat_lit 89)) (y'_35 (nat_lit 90)) (y'_35 (nat_lit 91)) (y'_35 (nat_lit 92)) (y'_35 (nat_lit 93)) (y'_35 (nat_lit 94)) (y'_35 (nat_lit 95)) (y'_35 (nat_lit 96)) (y'_35 (nat_lit 97)) (y'_35 (nat_lit 98)) (y'_35 (nat_lit 99)) (y'_35 (nat_lit 100)) (y'_35 (101:Nat)) (y'_35 (102:Nat)) (y'_35 (103:Nat)) (y'_35 (104:Nat)) (y'_35 (105:Nat)) (y'_35 (106:Nat)) (y'_35 (107:Nat)) (y'_35 (108:Nat)) (y'_35 (109:Nat)) (y'_35 (110:Nat)) (y'_35 (111:Nat)) (y'_35 (112:Nat)) (y'_35 (113:Nat)) (y'_35 (114:Nat)) e'_36 k d s n))))∧
 (∀k_39:Int,(∀d_40:Int,(∀s_41:Int,(∀n_42:Bool,(∀y'_43:Nat→VO,(∀e'_44:VO,(WD (g_38) (k_39) (d_40) (s_41) (n_42) (nO (Wd.pc w) (Wd.B w) (Wd.U w) (Wd.D w) (Wd.S w) (Wd.C w) (Wd.F w) (Wd.W w) (fst f) (fst (snd f)) (fst (snd (snd f))) (fst (snd (snd (snd f)))) (snd (snd (snd (snd f)))) (y'_43 (nat_lit 0)) (y'_43 (nat_lit 1)) (y'_43 (nat_lit 2)) (y'_43 (nat_lit 3)) (y'_43 (nat_lit 4)) (y'_43 (nat_lit 5)) (y'_43 (nat_lit 6)) (y'_43 (nat_lit 7)) (y'_43 (nat_lit 8)) (y'_43 (nat_lit 9)) (y'_43 (nat_lit 10)) (y'_43 (nat_lit 11)) (y'_43 (nat_lit 12)) (y'_43 (nat_lit 13)) (y'_43 (nat_lit 14)) (y'_43 (nat_lit 15)) (y'_43 (nat_lit 16)) (y'_43 (nat_lit 17)) (y'_43 (nat_lit 18)) (y'_43 (nat_lit 19)) (y'_43 (nat_lit 20)) (y'_43 (nat_lit 21)) (y'_43 (nat_lit 22)) (y'_43 (nat_lit 23)) (y'_43 (nat_lit 24)) (y'_43 (nat_lit 25)) (y'_43 (nat_lit 26)) (y'_43 (nat_lit 27)) (y'_43 (nat_lit 28)) (y'_43 (nat_lit 29)) (y'_43 (nat_lit 30)) (y'_43 (nat_lit 31)) (y'_43 (nat_lit 32)) (y'_43 (nat_lit 33)) (y'_43 (nat_lit 34)) (y'_43 (nat_lit 35)) (y'_43 (nat_lit 36)) (y'_43 (nat_lit 37)) (y'_43 (nat_lit 38)) (y'_43 (nat_lit 39)) (y'_43 (nat_lit 40)) (y'_43 (nat_lit 41)) (y'_43 (nat_lit 42)) (y'_43 (nat_lit 43)) (y'_43 (nat_lit 44)) (y'_43 (nat_lit 45)) (y'_43 (nat_lit 46)) (y'_43 (nat_lit 47)) (y'_43 (nat_lit 48)) (y'_43 (nat_lit 49)) (y'_43 (nat_lit 50)) (y'_43 (nat_lit 51)) (y'_43 (nat_lit 52)) (y'_43 (nat_lit 53)) (y'_43 (nat_lit 54)) (y'_43 (nat_lit 55)) (y'_43 (nat_lit 56)) (y'_43 (nat_lit 57)) (y'_43 (nat_lit 58)) (y'_43 (nat_lit 59)) (y'_43 (nat_lit 60)) (y'_43 (nat_lit 61)) (y'_43 (nat_lit 62)) (y'_43 (nat_lit 63)) (y'_43 (nat_lit 64)) (y'_43 (nat_lit 65)) (y'_43 (nat_lit 66)) (y'_43 (nat_lit 67)) (y'_43 (nat_lit 68)) (y'_43 (nat_lit 69)) (y'_43 (nat_lit 70)) (y'_43 (nat_lit 71)) (y'_43 (nat_lit 72)) (y'_43 (nat_lit 73)) (y'_43 (nat_lit 74)) (y'_43 (nat_lit 75)) (y'_43 (nat_lit 76)) (y'_43 (nat_lit 77)) (y'_43 (nat_lit 78)) (y'_43 (nat_lit 79)) (y'_43 (nat_lit 80)) (y'_43 (nat_lit 81)) (y'_43 (nat_lit 82)) (y'_43 (nat_lit 83)) (y'_43 (nat_lit 84)) (y'_43 (nat_lit 85)) (y'_43 (nat_lit 86)) (y'_43 (nat_lit 87)) (y'_43 (nat_lit 88)) (y'_43 (nat_lit 89)) (y'_43 (nat_lit 90)) (y'_43 (nat_lit 91)) (y'_43 (nat_lit 92)) (y'_43 (nat_lit 93)) (y'_43 (nat_lit 94)) (y'_43 (nat_lit 95)) (y'_43 (nat_lit 96)) (y'_43 (nat_lit 97)) (y'_43 (nat_lit 98)) (y'_43 (nat_lit 99)) (y'_43 (nat_lit 100)) (y'_43 (101:Nat)) (y'_43 (102:Nat)) (y'_43 (103:Nat)) (y'_43 (104:Nat)) (y'_43 (105:Nat)) (y'_43 (106:Nat)) (y'_43 (107:Nat)) (y'_43 (108:Nat)) (y'_43 (109:Nat)) (y'_43 (110:Nat)) (y'_43 (111:Nat)) (y'_43 (112:Nat)) (y'_43 (113:Nat)) (y'_43 (114:Nat)) e'_44 k d s n)→(bif bN neq (k6 k_39 (1:Int))
 then Q ip ⟨[(jZ (Wd.pc w) (Wd.B w) (Wd.U w) (Wd.D w) (Wd.S w) (Wd.C w) (Wd.F w) (Wd.W w)),(iY (fst f) (fst (snd f)) (fst (snd (snd f))) (fst (snd (snd (snd f)))) (snd (snd (snd (snd f))))),y'_43 (nat_lit 0),y'_43 (nat_lit 1),y'_43 (nat_lit 2),y'_43 (nat_lit 3),y'_43 (nat_lit 4),y'_43 (nat_lit 5),y'_43 (nat_lit 6),y'_43 (nat_lit 7),y'_43 (nat_lit 8),y'_43 (nat_lit 9),y'_43 (nat_lit 10),y'_43 (nat_lit 11),y'_43 (nat_lit 12),y'_43 (nat_lit 13),y'_43 (nat_lit 14),y'_43 (nat_lit 15),y'_43 (nat_lit 16),y'_43 (nat_lit 17),y'_43 (nat_lit 18),y'_43 (nat_lit 19),y'_43 (nat_lit 20),y'_43 (nat_lit 21),y'_43 (nat_lit 22),y'_43 (nat_lit 23),y'_43 (nat_lit 24),y'_43 (nat_lit 25),y'_43 (nat_lit 26),y'_43 (nat_lit 27),y'_43 (nat_lit 28),y'_43 (nat_lit 29),y'_43 (nat_lit 30),y'_43 (nat_lit 31),y'_43 (nat_lit 32),y'_43 (nat_lit 33),y'_43 (nat_lit 34),y'_43 (nat_lit 35),y'_43 (nat_lit 36),y'_43 (nat_lit 37),y'_43 (nat_lit 38),y'_43 (nat_lit 39),y'_43 (nat_lit 40),y'_43 (nat_lit 41),y'_43 (nat_lit 42),y'_43 (nat_lit 43),y'_43 (nat_lit 44),y'_43 (nat_lit 45),y'_43 (nat_lit 46),y'_43 (nat_lit 47),y'_43 (nat_lit 48),y'_43 (nat_lit 49),y'_43 (nat_lit 50),y'_43 (nat_lit 51),y'_43 (nat_lit 52),y'_43 (nat_lit 53),y'_43 (nat_lit 54),y'_43 (nat_lit 55),y'_43 (nat_lit 56),y'_43 (nat_lit 57),y'_43 (nat_lit 58),y'_43 (nat_lit 59),y'_43 (nat_lit 60),y'_43 (nat_lit 61),y'_43 (nat_lit 62),y'_43 (nat_lit 63),y'_43 (nat_lit 64),y'_43 (nat_lit 65),y'_43 (nat_lit 66),y'_43 (nat_lit 67),y'_43 (nat_lit 68),y'_43 (nat_lit 69),y'_43 (nat_lit 70),y'_43 (nat_lit 71),y'_43 (nat_lit 72),y'_43 (nat_lit 73),y'_43 (nat_lit 74),y'_43 (nat_lit 75),y'_43 (nat_lit 76),y'_43 (nat_lit 77),y'_43 (nat_lit 78),y'_43 (nat_lit 79),y'_43 (nat_lit 80),y'_43 (nat_lit 81),y'_43 (nat_lit 82),y'_43 (nat_lit 83),y'_43 (nat_lit 84),y'_43 (nat_lit 85),y'_43 (nat_lit 86),y'_43 (nat_lit 87),y'_43 (nat_lit 88),y'_43 (nat_lit 89),y'_43 (nat_lit 90),y'_43 (nat_lit 91),y'_43 (nat_lit 92),y'_43 (nat_lit 93),y'_43 (nat_lit 94),y'_43 (nat_lit 95),y'_43 (nat_lit 96),y'_43 (nat_lit 97),y'_43 (nat_lit 98),y'_43 (nat_lit 99),y'_43 (nat_lit 100),y'_43 (101:Nat),y'_43 (102:Nat),y'_43 (103:Nat),y'_43 (104:Nat),y'_43 (105:Nat),y'_43 (106:Nat),y'_43 (107:Nat),y'_43 (108:Nat),y'_43 (109:Nat),y'_43 (110:Nat),y'_43 (111:Nat),y'_43 (112:Nat),y'_43 (113:Nat),y'_43 (114:Nat),qX,e'_44,(iZ k d s n),(iZ k_39 d_40 s_41 n_42)],[]⟩
 else (bif bN neq (k6 d_40 d)
 then Q ip ⟨[(jZ (Wd.pc w) (Wd.B w) (Wd.U w) (Wd.D w) (Wd.S w) (Wd.C w) (Wd.F w) (Wd.W w)),(iY (fst f) (fst (snd f)) (fst (snd (snd f))) (fst (snd (snd (snd f)))) (snd (snd (snd (snd f))))),y'_43 (nat_lit 0),y'_43 (nat_lit 1),y'_43 (nat_lit 2),y'_43 (nat_lit 3),y'_43 (nat_lit 4),y'_43 (nat_lit 5),y'_43 (nat_lit 6),y'_43 (nat_lit 7),y'_43 (nat_lit 8),y'_43 (nat_lit 9),y'_43 (nat_lit 10),y'_43 (nat_lit 11),y'_43 (nat_lit 12),y'_43 (nat_lit 13),y'_43 (nat_lit 14),y'_43 (nat_lit 15),y'_43 (nat_lit 16),y'_43 (nat_lit 17),y'_43 (nat_lit 18),y'_43 (nat_lit 19),y'_43 (nat_lit 20),y'_43 (nat_lit 21),y'_43 (nat_lit 22),y'_43 (nat_lit 23),y'_43 (nat_lit 24),y'_43 (nat_lit 25),y'_43 (nat_lit 26),y'_43 (nat_lit 27),y'_43 (nat_lit 28),y'_43 (nat_lit 29),y'_43 (nat_lit 30),y'_43 (nat_lit 31),y'_43 (nat_lit 32),y'_43 (nat_lit 33),y'_43 (nat_lit 34),y'_43 (nat_lit 35),y'_43 (nat_lit 36),y'_43 (nat_lit 37),y'_43 (nat_lit 38),y'_43 (nat_lit 39),y'_43 (nat_lit 40),y'_43 (nat_lit 41),y'_43 (nat_lit 42),y'_43 (nat_lit 43),y'_43 (nat_lit 44),y'_43 (nat_lit 45),y'_43 (nat_lit 46),y'_43 (nat_lit 47),y'_43 (nat_lit 48),y'_43 (nat_lit 49),y'_43 (nat_lit 50),y'_43 (nat_lit 51),y'_43 (nat_lit 52),y'_43 (nat_lit 53),y'_43 (nat_lit 54),y'_43 (nat_lit 55),y'_43 (nat_lit 56),y'_43 (nat_lit 57),y'_43 (nat_lit 58),y'_43 (nat_lit 59),y'_43 (nat_lit 60),y'_43 (nat_lit 61),y'_43 (nat_lit 62),y'_43 (nat_lit 63),y'_43 (nat_lit 64),y'_43 (nat_lit 65),y'_43 (nat_lit 66),y'_43 (nat_lit 67),y'_43 (nat_lit 68),y'_43 (nat_lit 69),y'_43 (nat_lit 70),y'_43 (nat_lit 71),y'_43 (nat_lit 72),y'_43 (nat_lit 73),y'_43 (nat_lit 74),y'_43 (nat_lit 75),y'_43 (nat_lit 76),y'_43 (nat_lit 77),y'_43 (nat_lit 78),y'_43 (nat_lit 79),y'_43 (nat_lit 80),y'_43 (nat_lit 81),y'_43 (nat_lit 82),y'_43 (nat_lit 83),y'_43 (nat_lit 84),y'_43 (nat_lit 85),y'_43 (nat_lit 86),y'_43 (nat_lit 87),y'_43 (nat_lit 88),y'_43 (nat_lit 89),y'_43 (nat_lit 90),y'_43 (nat_lit 91),y'_43 (nat_lit 92),y'_43 (nat_lit 93),y'_43 (nat_lit 94),y'_43 (nat_lit 95),y'_43 (nat_lit 96),y'_43 (nat_lit 97),y'_43 (nat_lit 98),y'_43 (nat_lit 99),y'_43 (nat_lit 100),y'_43 (101:Nat),y'_43 (102:Nat),y'_43 (103:Nat),y'_43 (104:Nat),y'_43 (105:Nat),y'_43 (106:Nat),y'_43 (107:Nat),y'_43 (108:Nat),y'_43 (109:Nat),y'_43 (110:Nat),y'_43 (111:Nat),y'_43 (112:Nat),y'_43 (113:Nat),y'_43 (114:Nat),qX,e'_44,(iZ k d s n),(iZ k_39 d_40 s_41 n_42)],[]⟩
 else Q dG ⟨[(jZ (Wd.pc w) (Wd.B w) (Wd.U w) (Wd.D w) (Wd.S w) (Wd.C w) (Wd.F w) (Wd.W w)),(iY (fst f) (fst (snd f)) (fst (snd (snd f))) (fst (snd (snd (snd f)))) (snd (snd (snd (snd f))))),y'_43 (nat_lit 0),y'_43 (nat_lit 1),y'_43 (nat_lit 2),y'_43 (nat_lit 3),y'_43 (nat_lit 4),y'_43 (nat_lit 5),y'_43 (nat_lit 6),y'_43 (nat_lit 7),y'_43 (nat_lit 8),y'_43 (nat_lit 9),y'_43 (nat_lit 10),y'_43 (nat_lit 11),y'_43 (nat_lit 12),y'_43 (nat_lit 13),y'_43 (nat_lit 14),y'_43 (nat_lit 15),y'_43 (nat_lit 16),y'_43 (nat_lit 17),y'_43 (nat_lit 18),y'_43 (nat_lit 19),y'_43 (nat_lit 20),y'_43 (nat_lit 21),y'_43 (nat_lit 22),y'_43 (nat_lit 23),y'_43 (nat_lit 24),y'_43 (nat_lit 25),y'_43 (nat_lit 26),y'_43 (nat_lit 27),y'_43 (nat_lit 28),y'_43 (nat_lit 29),y'_43 (nat_lit 30),y'_43 (nat_lit 31),y'_43 (nat_lit 32),y'_43 (nat_lit 33),y'_43 (nat_lit 34),y'_43 (nat_lit 35),y'_43 (nat_lit 36),y'_43 (nat_lit 37),y'_43 (nat_lit 38),y'_43 (nat_lit 39),y'_43 (nat_lit 40),y'_43 (nat_lit 41),y'_43 (nat_lit 42),y'_43 (nat_lit 43),y'_43 (nat_lit 44),y'_43 (nat_lit 45),y'_43 (nat_lit 46),y'_43 (nat_lit 47),y'_43 (nat_lit 48),y'_43 (nat_lit 49),y'_43 (nat_lit 50),y'_43 (nat_lit 51),y'_43 (nat_lit 52),y'_43 (nat_lit 53),y'_43 (nat_lit 54),y'_43 (nat_lit 55),y'_43 (nat_lit 56),y'_43 (nat_lit 57),y'_43 (nat_lit 58),y'_43 (nat_lit 59),y'_43 (nat_lit 60),y'_43 (nat_lit 61),y'_43 (nat_lit 62),y'_43 (nat_lit 63),y'_43 (nat_lit 64),y'_43 (nat_lit 65),y'_43 (nat_lit 66),y'_43 (nat_lit 67),y'_43 (nat_lit 68),y'_43 (nat_lit 69),y'_43 (nat_lit 70),y'_43 (nat_lit 71),y'_43 (nat_lit 72),y'_43 (nat_lit 73),y'_43 (nat_lit 74),y'_43 (nat_lit 75),y'_43 (nat_lit 76),y'_43 (nat_lit 77),y'_43 (nat_lit 78),y'_43 (nat_lit 79),y'_43 (nat_lit 80),y'_43 (nat_lit 81),y'_43 (nat_lit 82),y'_43 (nat_lit 83),y'_43 (nat_lit 84),y'_43 (nat_lit 85),y'_43 (nat_lit 86),y'_43 (nat_lit 87),y'_43 (nat_lit 88),y'_43 (nat_lit 89),y'_43 (nat_lit 90),y'_43 (nat_lit 91),y'_43 (nat_lit 92),y'_43 (nat_lit 93),y'_43 (nat_lit 94),y'_43 (nat_lit 95),y'_43 (nat_lit 96),y'_43 (nat_lit 97),y'_43 (nat_lit 98),y'_43 (nat_lit 99),y'_43 (nat_lit 100),y'_43 (101:Nat),y'_43 (102:Nat),y'_43 (103:Nat),y'_43 (104:Nat),y'_43 (105:Nat),y'_43 (106:Nat),y'_43 (107:Nat),y'_43 (108:Nat),y'_43 (109:Nat),y'_43 (110:Nat),y'_43 (111:Nat),y'_43 (112:Nat),y'_43 (113:Nat),y'_43 (114:Nat),qX,e'_44,(iZ k d s n),(iZ k_39 d_40 s_41 n_42)],[]⟩))))))))))))))))))))))))))))))))))))))))))))):=by kernel_rfl
abbrev sd (L:Bs)(j:Nat):List TV:=(Ic L (↑(length L):Int) (↑j:Int))
abbrev Ka (L:Bs)(j:Nat):List TV:=(Ic L (↑(length L):Int) (wrap i64 ((↑j:Int)+(1:Int))))
theorem D6 (a:VO)(f:Fl)(y:Nat→VO)(e:VO)(k d s:Int)(n:Bool)(u:Int)(L:Bs)(j:Nat)(PD:Nat × Int→VT→Prop)(WD:Nat × Int→Int→Int→Int→Bool→VT→Prop)(PM WM:Int→Int→Bool→VT→Prop)(PW WW:Int→VT→Prop)(Q:Exit→List TV→VT→List Nat→Nat→Prop):vx prog ae (az [(Ar,D5 a (.cells (au f)) f PD WD),(tp,wd a (.cells (au f)) PM WM),(CU,GL a (.cells (au f)) PW WW)]) (bp [(999998,.dead,none),(46,.elt [.val (.int .u8 u)],none)]) 300 bo none 0 (dj prog rq 0) (ay 117 we (kf L j)) (rT a (.cells (au f)) y [bO,e,.cells (dO k d s n)]) [] (dm we Q)=
 (bif decide ((↑j:Int)<(↑(length L):Int))
 then (aJ prog (λ_=>.none) (.indexAddr 66 (.tmp 41) (.tmp 43)) [(41,(ej L)),(43,(ar (↑j:Int)))] (.elt [(.val (.int .u8 u))])∧
 (∃g:Int,(((@Eq (Nat) 0 0)∧
 PW (g) ⟨[(a),(.cells [(.val (.int .i64 (fst f))),(.val (.int .u32 (fst (snd f)))),(.val (.int .u32 (fst (snd (snd f))))),(.val (.int .i64 (fst (snd (snd (snd f)))))),(.val (.int .i64 (snd (snd (snd (snd f))))))])]++(aB y++ [(y (101:Nat)),(y (102:Nat)),(y (103:Nat)),(y (104:Nat)),(y (105:Nat)),(y (106:Nat)),(y (107:Nat)),(y (108:Nat)),(y (109:Nat)),(y (110:Nat)),(y (111:Nat)),(y (112:Nat)),(y (113:Nat)),(y (114:Nat)),(.cells [(.ptr 6 0),(.ptr 8 0),(.ptr 11 0),(.ptr 12 0),(.ptr 13 0),(.ptr 14 0)]),(e),(.cells [(.val (.int .i64 (k))),(.val (.int .i64 (d))),(.val (.int .i64 (s))),(.val (.bool (n)))])]),[]⟩)∧
 (∀c:Int,(∀y':Nat→VO,(∀e':VO,(WW (g) (rM a (fst f) (fst (snd f)) (fst (snd (snd f))) (fst (snd (snd (snd f)))) (snd (snd (snd (snd f)))) (y' (nat_lit 0)) (y' (nat_lit 1)) (y' (nat_lit 2)) (y' (nat_lit 3)) (y' (nat_lit 4)) (y' (nat_lit 5)) (y' (nat_lit 6)) (y' (nat_lit 7)) (y' (nat_lit 8)) (y' (nat_lit 9)) (y' (nat_lit 10)) (y' (nat_lit 11)) (y' (nat_lit 12)) (y' (nat_lit 13)) (y' (nat_lit 14)) (y' (nat_lit 15)) (y' (nat_lit 16)) (y' (nat_lit 17)) (y' (nat_lit 18)) (y' (nat_lit 19)) (y' (nat_lit 20)) (y' (nat_lit 21)) (y' (nat_lit 22)) (y' (nat_lit 23)) (y' (nat_lit 24)) (y' (nat_lit 25)) (y' (nat_lit 26)) (y' (nat_lit 27)) (y' (nat_lit 28)) (y' (nat_lit 29)) (y' (nat_lit 30)) (y' (nat_lit 31)) (y' (nat_lit 32)) (y' (nat_lit 33)) (y' (nat_lit 34)) (y' (nat_lit 35)) (y' (nat_lit 36)) (y' (nat_lit 37)) (y' (nat_lit 38)) (y' (nat_lit 39)) (y' (nat_lit 40)) (y' (nat_lit 41)) (y' (nat_lit 42)) (y' (nat_lit 43)) (y' (nat_lit 44)) (y' (nat_lit 45)) (y' (nat_lit 46)) (y' (nat_lit 47)) (y' (nat_lit 48)) (y' (nat_lit 49)) (y' (nat_lit 50)) (y' (nat_lit 51)) (y' (nat_lit 52)) (y' (nat_lit 53)) (y' (nat_lit 54)) (y' (nat_lit 55)) (y' (nat_lit 56)) (y' (nat_lit 57)) (y' (nat_lit 58)) (y' (nat_lit 59)) (y' (nat_lit 60)) (y' (nat_lit 61)) (y' (nat_lit 62)) (y' (nat_lit 63)) (y' (nat_lit 64)) (y' (nat_lit 65)) (y' (nat_lit 66)) (y' (nat_lit 67)) (y' (nat_lit 68)) (y' (nat_lit 69)) (y' (nat_lit 70)) (y' (nat_lit 71)) (y' (nat_lit 72)) (y' (nat_lit 73)) (y' (nat_lit 74)) (y' (nat_lit 75)) (y' (nat_lit 76)) (y' (nat_lit 77)) (y' (nat_lit 78)) (y' (nat_lit 79)) (y' (nat_lit 80)) (y' (nat_lit 81)) (y' (nat_lit 82)) (y' (nat_lit 83)) (y' (nat_lit 84)) (y' (nat_lit 85)) (y' (nat_lit 86)) (y' (nat_lit 87)) (y' (nat_lit 88)) (y' (nat_lit 89)) (y' (nat_lit 90)) (y' (nat_lit 91)) (y' (nat_lit 92)) (y' (nat_lit 93)) (y' (nat_lit 94)) (y' (nat_lit 95)) (y' (nat_lit 96)) (y' (nat_lit 97)) (y' (nat_lit 98)) (y' (nat_lit 99)) (y' (nat_lit 100)) (y' (101:Nat)) (y' (102:Nat)) (y' (103:Nat)) (y' (104:Nat)) (y' (105:Nat)) (y' (106:Nat)) (y' (107:Nat)) (y' (108:Nat)) (y' (109:Nat)) (y' (110:Nat)) (y' (111:Nat)) (y' (112:Nat)) (y' (113:Nat)) (y' (114:Nat)) e' k d s n)→(bif bN neq (k6 (↑j:Int) d)
 then (∃g_23:Int,(((@Eq (Nat) 0 0)∧
 PM (g_23) ((↑j:Int)) (bN eql (am (Value.int u8 (tmod u (2:Int))) (Value.int u8 (0:Int)))) (rM a (fst f) (fst (snd f)) (fst (snd (snd f))) (fst (snd (snd (snd f)))) (snd (snd (snd (snd f)))) (y' (nat_lit 0)) (y' (nat_lit 1)) (y' (nat_lit 2)) (y' (nat_lit 3)) (y' (nat_lit 4)) (y' (nat_lit 5)) (y' (nat_lit 6)) (y' (nat_lit 7)) (y' (nat_lit 8)) (y' (nat_lit 9)) (y' (nat_lit 10)) (y' (nat_lit 11)) (y' (nat_lit 12)) (y' (nat_lit 13)) (y' (nat_lit 14)) (y' (nat_lit 15)) (y' (nat_lit 16)) (y' (nat_lit 17)) (y' (nat_lit 18)) (y' (nat_lit 19)) (y' (nat_lit 20)) (y' (nat_lit 21)) (y' (nat_lit 22)) (y' (nat_lit 23)) (y' (nat_lit 24)) (y' (nat_lit 25)) (y' (nat_lit 26)) (y' (nat_lit 27)) (y' (nat_lit 28)) (y' (nat_lit 29)) (y' (nat_lit 30)) (y' (nat_lit 31)) (y' (nat_lit 32)) (y' (nat_lit 33)) (y' (nat_lit 34)) (y' (nat_lit 35)) (y' (nat_lit 36)) (y' (nat_lit 37)) (y' (nat_lit 38)) (y' (nat_lit 39)) (y' (nat_lit 40)) (y' (nat_lit 41)) (y' (nat_lit 42)) (y' (nat_lit 43)) (y' (nat_lit 44)) (y' (nat_lit 45)) (y' (nat_lit 46)) (y' (nat_lit 47)) (y' (nat_lit 48)) (y' (nat_lit 49)) (y' (nat_lit 50)) (y' (nat_lit 51)) (y' (nat_lit 52)) (y' (nat_lit 53)) (y' (nat_lit 54)) (y' (nat_lit 55)) (y' (nat_lit 56)) (y' (nat_lit 57)) (y' (nat_lit 58)) (y' (nat_lit 59)) (y' (nat_lit 60)) (y' (nat_lit 61)) (y' (nat_lit 62)) (y' (nat_lit 63)) (y' (nat_lit 64)) (y' (nat_lit 65)) (y' (nat_lit 66)) (y' (nat_lit 67)) (y' (nat_lit 68)) (y' (nat_lit 69)) (y' (nat_lit 70)) (y' (nat_lit 71)) (y' (nat_lit 72)) (y' (nat_lit 73)) (y' (nat_lit 74)) (y' (nat_lit 75)) (y' (nat_lit 76)) (y' (nat_lit 77)) (y' (nat_lit 78)) (y' (nat_lit 79)) (y' (nat_lit 80)) (y' (nat_lit 81)) (y' (nat_lit 82)) (y' (nat_lit 83)) (y' (nat_lit 84)) (y' (nat_lit 85)) (y' (nat_lit 86)) (y' (nat_lit 87)) (y' (nat_lit 88)) (y' (nat_lit 89)) (y' (nat_lit 90)) (y' (nat_lit 91)) (y' (nat_lit 92)) (y' (nat_lit 93)) (y' (nat_lit 94)) (y' (nat_lit 95)) (y' (nat_lit 96)) (y' (nat_lit 97)) (y' (nat_lit 98)) (y' (nat_lit 99)) (y' (nat_lit 100)) (y' (101:Nat)) (y' (102:Nat)) (y' (103:Nat)) (y' (104:Nat)) (y' (105:Nat)) (y' (106:Nat)) (y' (107:Nat)) (y' (108:Nat)) (y' (109:Nat)) (y' (110:Nat)) (y' (111:Nat)) (y' (112:Nat)) (y' (113:Nat)) (y' (114:Nat)) e' k d s n))∧
 (∀c_24:Int,(∀y'_25:Nat→VO,(∀e'_26:VO,(WM (g_23) ((↑j:Int)) (bN eql (am (Value.int u8 (tmod u (2:Int))) (Value.int u8 (0:Int)))) (rM a (fst f) (fst (snd f)) (fst (snd (snd f))) (fst (snd (snd (snd f)))) (snd (snd (snd (snd f)))) (y'_25 (nat_lit 0)) (y'_25 (nat_lit 1)) (y'_25 (nat_lit 2)) (y'_25 (nat_lit 3)) (y'_25 (nat_lit 4)) (y'_25 (nat_lit 5)) (y'_25 (nat_lit 6)) (y'_25 (nat_lit 7)) (y'_25 (nat_lit 8)) (y'_25 (nat_lit 9)) (y'_25 (nat_lit 10)) (y'_25 (nat_lit 11)) (y'_25 (nat_lit 12)) (y'_25 (nat_lit 13)) (y'_25 (nat_lit 14)) (y'_25 (nat_lit 15)) (y'_25 (nat_lit 16)) (y'_25 (nat_lit 17)) (y'_25 (nat_lit 18)) (y'_25 (nat_lit 19)) (y'_25 (nat_lit 20)) (y'_25 (nat_lit 21)) (y'_25 (nat_lit 22)) (y'_25 (nat_lit 23)) (y'_25 (nat_lit 24)) (y'_25 (nat_lit 25)) (y'_25 (nat_lit 26)) (y'_25 (nat_lit 27)) (y'_25 (nat_lit 28)) (y'_25 (nat_lit 29)) (y'_25 (nat_lit 30)) (y'_25 (nat_lit 31)) (y'_25 (nat_lit 32)) (y'_25 (nat_lit 33)) (y'_25 (nat_lit 34)) (y'_25 (nat_lit 35)) (y'_25 (nat_lit 36)) (y'_25 (nat_lit 37)) (y'_25 (nat_lit 38)) (y'_25 (nat_lit 39)) (y'_25 (nat_lit 40)) (y'_25 (nat_lit 41)) (y'_25 (nat_lit 42)) (y'_25 (nat_lit 43)) (y'_25 (nat_lit 44)) (y'_25 (nat_lit 45)) (y'_25 (nat_lit 46)) (y'_25 (nat_lit 47)) (y'_25 (nat_lit 48)) (y'_25 (nat_lit 49)) (y'_25 (nat_lit 50)) (y'_25 (nat_lit 51)) (y'_25 (nat_lit 52)) (y'_25 (nat_lit 53)) (y'_25 (nat_lit 54)) (y'_25 (nat_lit 55)) (y'_25 (nat_lit 56)) (y'_25 (nat_lit 57)) (y'_25 (nat_lit 58)) (y'_25 (nat_lit 59)) (y'_25 (nat_lit 60)) (y'_25 (nat_lit 61)) (y'_25 (nat_lit 62)) (y'_25 (nat_lit 63)) (y'_25 (nat_lit 64)) (y'_25 (nat_lit 65)) (y'_25 (nat_lit 66)) (y'_25 (nat_lit 67)) (y'_25 (nat_lit 68)) (y'_25 (nat_lit 69)) (y'_25 (nat_lit 70)) (y'_25 (nat_lit 71)) (y'_25 (nat_lit 72)) (y'_25 (nat_lit 73)) (y'_25 (nat_lit 74)) (y'_25 (nat_lit 75)) (y'_25 (nat_lit 76)) (y'_25 (nat_lit 77)) (y'_25 (nat_lit 78)) (y'_25 (nat_lit 79)) (y'_25 (nat_lit 80)) (y'_25 (nat_lit 81)) (y'_25 (nat_lit 82)) (y'_25 (nat_lit 83)) (y'_25 (nat_lit 84)) (y'_25 (nat_lit 85)) (y'_25 (nat_lit 86)) (y'_25 (nat_lit 87)) (y'_25 (nat_lit 88)) (y'_25 (nat_lit 89)) (y'_25 (nat_lit 90)) (y'_25 (nat_lit 91)) (y'_25 (nat_lit 92)) (y'_25 (nat_lit 93)) (y'_25 (nat_lit 94)) (y'_25 (nat_lit 95)) (y'_25 (nat_lit 96)) (y'_25 (nat_lit 97)) (y'_25 (nat_lit 98)) (y'_25 (nat_lit 99)) (y'_25 (nat_lit 100)) (y'_25 (101:Nat)) (y'_25 (102:Nat)) (y'_25 (103:Nat)) (y'_25 (104:Nat)) (y'_25 (105:Nat)) (y'_25 (106:Nat)) (y'_25 (107:Nat)) (y'_25 (108:Nat)) (y'_25 (109:Nat)) (y'_25 (110:Nat)) (y'_25 (111:Nat)) (y'_25 (112:Nat)) (y'_25 (113:Nat)) (y'_25 (114:Nat)) e'_26 k d s n)→(∃g_28:Nat × Int,(((@Eq (Nat) 0 0)∧
 ((@Eq (TV) (cR (fst f) (fst (snd f)) (fst (snd (snd f))) (fst (snd (snd (snd f)))) (snd (snd (snd (snd f))))) (cR (fst f) (fst (snd f)) (fst (snd (snd f))) (fst (snd (snd (snd f)))) (snd (snd (snd (snd f))))))∧
 ((@Eq (Bool) false false)∧
 PD (g_28) (rM a (fst f) (fst (snd f)) (fst (snd (snd f))) (fst (snd (snd (snd f)))) (snd (snd (snd (snd f)))) (y'_25 (nat_lit 0)) (y'_25 (nat_lit 1)) (y'_25 (nat_lit 2)) (y'_25 (nat_lit 3)) (y'_25 (nat_lit 4)) (y'_25 (nat_lit 5)) (y'_25 (nat_lit 6)) (y'_25 (nat_lit 7)) (y'_25 (nat_lit 8)) (y'_25 (nat_lit 9)) (y'_25 (nat_lit 10)) (y'_25 (nat_lit 11)) (y'_25 (nat_lit 12)) (y'_25 (nat_lit 13)) (y'_25 (nat_lit 14)) (y'_25 (nat_lit 15)) (y'_25 (nat_lit 16)) (y'_25 (nat_lit 17)) (y'_25 (nat_lit 18)) (y'_25 (nat_lit 19)) (y'_25 (nat_lit 20)) (y'_25 (nat_lit 21)) (y'_25 (nat_lit 22)) (y'_25 (nat_lit 23)) (y'_25 (nat_lit 24)) (y'_25 (nat_lit 25)) (y'_25 (nat_lit 26)) (y'_25 (nat_lit 27)) (y'_25 (nat_lit 28)) (y'_25 (nat_lit 29)) (y'_25 (nat_lit 30)) (y'_25 (nat_lit 31)) (y'_25 (nat_lit 32)) (y'_25 (nat_lit 33)) (y'_25 (nat_lit 34)) (y'_25 (nat_lit 35)) (y'_25 (nat_lit 36)) (y'_25 (nat_lit 37)) (y'_25 (nat_lit 38)) (y'_25 (nat_lit 39)) (y'_25 (nat_lit 40)) (y'_25 (nat_lit 41)) (y'_25 (nat_lit 42)) (y'_25 (nat_lit 43)) (y'_25 (nat_lit 44)) (y'_25 (nat_lit 45)) (y'_25 (nat_lit 46)) (y'_25 (nat_lit 47)) (y'_25 (nat_lit 48)) (y'_25 (nat_lit 49)) (y'_25 (nat_lit 50)) (y'_25 (nat_lit 51)) (y'_25 (nat_lit 52)) (y'_25 (nat_lit 53)) (y'_25 (nat_lit 54)) (y'_25 (nat_lit 55)) (y'_25 (nat_lit 56)) (y'_25 (nat_lit 57)) (y'_25 (nat_lit 58)) (y'_25 (nat_lit 59)) (y'_25 (nat_lit 60)) (y'_25 (nat_lit 61)) (y'_25 (nat_lit 62)) (y'_25 (nat_lit 63)) (y'_25 (nat_lit 64)) (y'_25 (nat_lit 65)) (y'_25 (nat_lit 66)) (y'_25 (nat_lit 67)) (y'_25 (nat_lit 68)) (y'_25 (nat_lit 69)) (y'_25 (nat_lit 70)) (y'_25 (nat_lit 71)) (y'_25 (nat_lit 72)) (y'_25 (nat_lit 73)) (y'_25 (nat_lit 74)) (y'_25 (nat_lit 75)) (y'_25 (nat_lit 76)) (y'_25 (nat_lit 77)) (y'_25 (nat_lit 78)) (y'_25 (nat_lit 79)) (y'_25 (nat_lit 80)) (y'_25 (nat_lit 81)) (y'_25 (nat_lit 82)) (y'_25 (nat_lit 83)) (y'_25 (nat_lit 84)) (y'_25 (nat_lit 85)) (y'_25 (nat_lit 86)) (y'_25 (nat_lit 87)) (y'_25 (nat_lit 88)) (y'_25 (nat_lit 89)) (y'_25 (nat_lit 90)) (y'_25 (nat_lit 91)) (y'_25 (nat_lit 92)) (y'_25 (nat_lit 93)) (y'_25 (nat_lit 94)) (y'_25 (nat_lit 95)) (y'_25 (nat_lit 96)) (y'_25 (nat_lit 97)) (y'_25 (nat_lit 98)) (y'_25 (nat_lit 99)) (y'_25 (nat_lit 100)) (y'_25 (101:Nat)) (y'_25 (102:Nat)) (y'_25 (103:Nat)) (y'_25 (104:Nat)) (y'_25 (105:Nat)) (y'_25 (106:Nat)) (y'_25 (107:Nat)) (y'_25 (108:Nat)) (y'_25 (109:Nat)) (y'_25 (110:Nat)) (y'_25 (111:Nat)) (y'_25 (112:Nat)) (y'_25 (113:Nat)) (y'_25 (114:Nat)) e'_26 k d s n))))∧
 (∀k_29:Int,(∀d_30:Int,(∀s_31:Int,(∀n_32:Bool,(∀y'_33:Nat→VO,(∀e'_34:VO,(WD (g_28) (k_29) (d_30) (s_31) (n_32) (rM a (fst f) (fst (snd f)) (fst (snd (snd f))) (fst (snd (snd (snd f)))) (snd (snd (snd (snd f)))) (y'_33 (nat_lit 0)) (y'_33 (nat_lit 1)) (y'_33 (nat_lit 2)) (y'_33 (nat_lit 3)) (y'_33 (nat_lit 4)) (y'_33 (nat_lit 5)) (y'_33 (nat_lit 6)) (y'_33 (nat_lit 7)) (y'_33 (nat_lit 8)) (y'_33 (nat_lit 9)) (y'_33 (nat_lit 10)) (y'_33 (nat_lit 11)) (y'_33 (nat_lit 12)) (y'_33 (nat_lit 13)) (y'_33 (nat_lit 14)) (y'_33 (nat_lit 15)) (y'_33 (nat_lit 16)) (y'_33 (nat_lit 17)) (y'_33 (nat_lit 18)) (y'_33 (nat_lit 19)) (y'_33 (nat_lit 20)) (y'_33 (nat_lit 21)) (y'_33 (nat_lit 22)) (y'_33 (nat_lit 23)) (y'_33 (nat_lit 24)) (y'_33 (nat_lit 25)) (y'_33 (nat_lit 26)) (y'_33 (nat_lit 27)) (y'_33 (nat_lit 28)) (y'_33 (nat_lit 29)) (y'_33 (nat_lit 30)) (y'_33 (nat_lit 31)) (y'_33 (nat_lit 32)) (y'_33 (nat_lit 33)) (y'_33 (nat_lit 34)) (y'_33 (nat_lit 35)) (y'_33 (nat_lit 36)) (y'_33 (nat_lit 37)) (y'_33 (nat_lit 38)) (y'_33 (nat_lit 39)) (y'_33 (nat_lit 40)) (y'_33 (nat_lit 41)) (y'_33 (nat_lit 42)) (y'_33 (nat_lit 43)) (y'_33 (nat_lit 44)) (y'_33 (nat_lit 45)) (y'_33 (nat_lit 46)) (y'_33 (nat_lit 47)) (y'_33 (nat_lit 48)) (y'_33 (nat_lit 49)) (y'_33 (nat_lit 50)) (y'_33 (nat_lit 51)) (y'_33 (nat_lit 52)) (y'_33 (nat_lit 53)) (y'_33 (nat_lit 54)) (y'_33 (nat_lit 55)) (y'_33 (nat_lit 56)) (y'_33 (nat_lit 57)) (y'_33 (nat_lit 58)) (y'_33 (nat_lit 59)) (y'_33 (nat_lit 60)) (y'_33 (nat_lit 61)) (y'_33 (nat_lit 62)) (y'_33 (nat_lit 63)) (y'_33 (nat_lit 64)) (y'_33 (nat_lit 65)) (y'_33 (nat_lit 66)) (y'_33 (nat_lit 67)) (y'_33 (nat_lit 68)) (y'_33 (nat_lit 69)) (y'_33 (nat_lit 70)) (y'_33 (nat_lit 71)) (y'_33 (nat_lit 72)) (y'_33 (nat_lit 73)) (y'_33 (nat_lit 74)) (y'_33 (nat_lit 75)) (y'_33 (nat_lit 76)) (y'_33 (nat_lit 77)) (y'_33 (nat_lit 78)) (y'_33 (nat_lit 79)) (y'_33 (nat_lit 80)) (y'_33 (nat_lit 81)) (y'_33 (nat_lit 82)) (y'_33 (nat_lit 83)) (y'_33 (nat_lit 84)) (y'_33 (nat_lit 85)) (y'_33 (nat_lit 86)) (y'_33 (nat_lit 87)) (y'_33 (nat_lit 88)) (y'_33 (nat_lit 89)) (y'_33 (nat_lit 90)) (y'_33 (nat_lit 91)) (y'_33 (nat_lit 92)) (y'_33 (nat_lit 93)) (y'_33 (nat_lit 94)) (y'_33 (nat_lit 95)) (y'_33 (nat_lit 96)) (y'_33 (nat_lit 97)) (y'_33 (nat_lit 98)) (y'_33 (nat_lit 99)) (y'_33 (nat_lit 100)) (y'_33 (101:Nat)) (y'_33 (102:Nat)) (y'_33 (103:Nat)) (y'_33 (104:Nat)) (y'_33 (105:Nat)) (y'_33 (106:Nat)) (y'_33 (107:Nat)) (y'_33 (108:Nat)) (y'_33 (109:Nat)) (y'_33 (110:Nat)) (y'_33 (111:Nat)) (y'_33 (112:Nat)) (y'_33 (113:Nat)) (y'_33 (114:Nat)) e'_34 k d s n)→(bif bN neq (k6 k_29 (1:Int))
 then Q .ret (sd L j) (vI a (fst f) (fst (snd f)) (fst (snd (snd f))) (fst (snd (snd (snd f)))) (snd (snd (snd (snd f)))) (y'_33 (nat_lit 0)) (y'_33 (nat_lit 1)) (y'_33 (nat_lit 2)) (y'_33 (nat_lit 3)) (y'_33 (nat_lit 4)) (y'_33 (nat_lit 5)) (y'_33 (nat_lit 6)) (y'_33 (nat_lit 7)) (y'_33 (nat_lit 8)) (y'_33 (nat_lit 9)) (y'_33 (nat_lit 10)) (y'_33 (nat_lit 11)) (y'_33 (nat_lit 12)) (y'_33 (nat_lit 13)) (y'_33 (nat_lit 14)) (y'_33 (nat_lit 15)) (y'_33 (nat_lit 16)) (y'_33 (nat_lit 17)) (y'_33 (nat_lit 18)) (y'_33 (nat_lit 19)) (y'_33 (nat_lit 20)) (y'_33 (nat_lit 21)) (y'_33 (nat_lit 22)) (y'_33 (nat_lit 23)) (y'_33 (nat_lit 24)) (y'_33 (nat_lit 25)) (y'_33 (nat_lit 26)) (y'_33 (nat_lit 27)) (y'_33 (nat_lit 28)) (y'_33 (nat_lit 29)) (y'_33 (nat_lit 30)) (y'_33 (nat_lit 31)) (y'_33 (nat_lit 32)) (y'_33 (nat_lit 33)) (y'_33 (nat_lit 34)) (y'_33 (nat_lit 35)) (y'_33 (nat_lit 36)) (y'_33 (nat_lit 37)) (y'_33 (nat_lit 38)) (y'_33 (nat_lit 39)) (y'_33 (nat_lit 40)) (y'_33 (nat_lit 41)) (y'_33 (nat_lit 42)) (y'_33 (nat_lit 43)) (y'_33 (nat_lit 44)) (y'_33 (nat_lit 45)) (y'_33 (nat_lit 46)) (y'_33 (nat_lit 47)) (y'_33 (nat_lit 48)) (y'_33 (nat_lit 49)) (y'_33 (nat_lit 50)) (y'_33 (nat_lit 51)) (y'_33 (nat_lit 52)) (y'_33 (nat_lit 53)) (y'_33 (nat_lit 54)) (y'_33 (nat_lit 55)) (y'_33 (nat_lit 56)) (y'_33 (nat_lit 57)) (y'_33 (nat_lit 58)) (y'_33 (nat_lit 59)) (y'_33 (nat_lit 60)) (y'_33 (nat_lit 61)) (y'_33 (nat_lit 62)) (y'_33 (nat_lit 63)) (y'_33 (nat_lit 64)) (y'_33 (nat_lit 65)) (y'_33 (nat_lit 66)) (y'_33 (nat_lit 67)) (y'_33 (nat_lit 68)) (y'_33 (nat_lit 69)) (y'_33 (nat_lit 70)) (y'_33 (nat_lit 71)) (y'_33 (nat_lit 72)) (y'_33 (nat_lit 73)) (y'_33 (nat_lit 74)) (y'_33 (nat_lit 75)) (y'_33 (nat_lit 76)) (y'_33 (nat_lit 77)) (y'_33 (nat_lit 78)) (y'_33 (nat_lit 79)) (y'_33 (nat_lit 80)) (y'_33 (nat_lit 81)) (y'_33 (nat_lit 82)) (y'_33 (nat_lit 83)) (y'_33 (nat_lit 84)) (y'_33 (nat_lit 85)) (y'_33 (nat_lit 86)) (y'_33 (nat_lit 87)) (y'_33 (nat_lit 88)) (y'_33 (nat_lit 89)) (y'_33 (nat_lit 90)) (y'_33 (nat_lit 91)) (y'_33 (nat_lit 92)) (y'_33 (nat_lit 93)) (y'_33 (nat_lit 94)) (y'_33 (nat_lit 95)) (y'_33 (nat_lit 96)) (y'_33 (nat_lit 97)) (y'_33 (nat_lit 98)) (y'_33 (nat_lit 99)) (y'_33 (nat_lit 100)) (y'_33 (101:Nat)) (y'_33 (102:Nat)) (y'_33 (103:Nat)) (y'_33 (104:Nat)) (y'_33 (105:Nat)) (y'_33 (106:Nat)) (y'_33 (107:Nat)) (y'_33 (108:Nat)) (y'_33 (109:Nat)) (y'_33 (110:Nat)) (y'_33 (111:Nat)) (y'_33 (112:Nat)) (y'_33 (113:Nat)) (y'_33 (114:Nat)) e'_34 k d s n k_29 d_30 s_31 n_32) [] 117
 else (bif bN neq (k6 d_30 d)
 then Q .ret (sd L j) (vI a (fst f) (fst (snd f)) (fst (snd (snd f))) (fst (snd (snd (snd f)))) (snd (snd (snd (snd f)))) (y'_33 (nat_lit 0)) (y'_33 (nat_lit 1)) (y'_33 (nat_lit 2)) (y'_33 (nat_lit 3)) (y'_33 (nat_lit 4)) (y'_33 (nat_lit 5)) (y'_33 (nat_lit 6)) (y'_33 (nat_lit 7)) (y'_33 (nat_lit 8)) (y'_33 (nat_lit 9)) (y'_33 (nat_lit 10)) (y'_33 (nat_lit 11)) (y'_33 (nat_lit 12)) (y'_33 (nat_lit 13)) (y'_33 (nat_lit 14)) (y'_33 (nat_lit 15)) (y'_33 (nat_lit 16)) (y'_33 (nat_lit 17)) (y'_33 (nat_lit 18)) (y'_33 (nat_lit 19)) (y'_33 (nat_lit 20)) (y'_33 (nat_lit 21)) (y'_33 (nat_lit 22)) (y'_33 (nat_lit 23)) (y'_33 (nat_lit 24)) (y'_33 (nat_lit 25)) (y'_33 (nat_lit 26)) (y'_33 (nat_lit 27)) (y'_33 (nat_lit 28)) (y'_33 (nat_lit 29)) (y'_33 (nat_lit 30)) (y'_33 (nat_lit 31)) (y'_33 (nat_lit 32)) (y'_33 (nat_lit 33)) (y'_33 (nat_lit 34)) (y'_33 (nat_lit 35)) (y'_33 (nat_lit 36)) (y'_33 (nat_lit 37)) (y'_33 (nat_lit 38)) (y'_33 (nat_lit 39)) (y'_33 (nat_lit 40)) (y'_33 (nat_lit 41)) (y'_33 (nat_lit 42)) (y'_33 (nat_lit 43)) (y'_33 (nat_lit 44)) (y'_33 (nat_lit 45)) (y'_33 (nat_lit 46)) (y'_33 (nat_lit 47)) (y'_33 (nat_lit 48)) (y'_33 (nat_lit 49)) (y'_33 (nat_lit 50)) (y'_33 (nat_lit 51)) (y'_33 (nat_lit 52)) (y'_33 (nat_lit 53)) (y'_33 (nat_lit 54)) (y'_33 (nat_lit 55)) (y'_33 (nat_lit 56)) (y'_33 (nat_lit 57)) (y'_33 (nat_lit 58)) (y'_33 (nat_lit 59)) (y'_33 (nat_lit 60)) (y'_33 (nat_lit 61)) (y'_33 (nat_lit 62)) (y'_33 (nat_lit 63)) (y'_33 (nat_lit 64)) (y'_33 (nat_lit 65)) (y'_33 (nat_lit 66)) (y'_33 (nat_lit 67)) (y'_33 (nat_lit 68)) (y'_33 (nat_lit 69)) (y'_33 (nat_lit 70)) (y'_33 (nat_lit 71)) (y'_33 (nat_lit 72)) (y'_33 (nat_lit 73)) (y'_33 (nat_lit 74)) (y'_33 (nat_lit 75)) (y'_33 (nat_lit 76)) (y'_33 (nat_lit 77)) (y'_33 (nat_lit 78)) (y'_33 (nat_lit 79)) (y'_33 (nat_lit 80)) (y'_33 (nat_lit 81)) (y'_33 (nat_lit 82)) (y'_33 (nat_lit 83)) (y'_33 (nat_lit 84)) (y'_33 (nat_lit 85)) (y'_33 (nat_lit 86)) (y'_33 (nat_lit 87)) (y'_33 (nat_lit 88)) (y'_33 (nat_lit 89)) (y'_33 (nat_lit 90)) (y'_33 (nat_lit 91)) (y'_33 (nat_lit 92)) (y'_33 (nat_lit 93)) (y'_33 (nat_lit 94)) (y'_33 (nat_lit 95)) (y'_33 (nat_lit 96)) (y'_33 (nat_lit 97)) (y'_33 (nat_lit 98)) (y'_33 (nat_lit 99)) (y'_33 (nat_lit 100)) (y'_33 (101:Nat)) (y'_33 (102:Nat)) (y'_33 (103:Nat)) (y'_33 (104:Nat)) (y'_33 (105:Nat)) (y'_33 (106:Nat)) (y'_33 (107:Nat)) (y'_33 (108:Nat)) (y'_33 (109:Nat)) (y'_33 (110:Nat)) (y'_33 (111:Nat)) (y'_33 (112:Nat)) (y'_33 (113:Nat)) (y'_33 (114:Nat)) e'_34 k d s n k_29 d_30 s_31 n_32) [] 117
 else (bif !n_32
 then Q .ret (sd L j) (vI a (fst f) (fst (snd f)) (fst (snd (snd f))) (fst (snd (snd (snd f)))) (snd (snd (snd (snd f)))) (y'_33 (nat_lit 0)) (y'_33 (nat_lit 1)) (y'_33 (nat_lit 2)) (y'_33 (nat_lit 3)) (y'_33 (nat_lit 4)) (y'_33 (nat_lit 5)) (y'_33 (nat_lit 6)) (y'_33 (nat_lit 7)) (y'_33 (nat_lit 8)) (y'_33 (nat_lit 9)) (y'_33 (nat_lit 10)) (y'_33 (nat_lit 11)) (y'_33 (nat_lit 12)) (y'_33 (nat_lit 13)) (y'_33 (nat_lit 14)) (y'_33 (nat_lit 15)) (y'_33 (nat_lit 16)) (y'_33 (nat_lit 17)) (y'_33 (nat_lit 18)) (y'_33 (nat_lit 19)) (y'_33 (nat_lit 20)) (y'_33 (nat_lit 21)) (y'_33 (nat_lit 22)) (y'_33 (nat_lit 23)) (y'_33 (nat_lit 24)) (y'_33 (nat_lit 25)) (y'_33 (nat_lit 26)) (y'_33 (nat_lit 27)) (y'_33 (nat_lit 28)) (y'_33 (nat_lit 29)) (y'_33 (nat_lit 30)) (y'_33 (nat_lit 31)) (y'_33 (nat_lit 32)) (y'_33 (nat_lit 33)) (y'_33 (nat_lit 34)) (y'_33 (nat_lit 35)) (y'_33 (nat_lit 36)) (y'_33 (nat_lit 37)) (y'_33 (nat_lit 38)) (y'_33 (nat_lit 39)) (y'_33 (nat_lit 40)) (y'_33 (nat_lit 41)) (y'_33 (nat_lit 42)) (y'_33 (nat_lit 43)) (y'_33 (nat_lit 44)) (y'_33 (nat_lit 45)) (y'_33 (nat_lit 46)) (y'_33 (nat_lit 47)) (y'_33 (nat_lit 48)) (y'_33 (nat_lit 49)) (y'_33 (nat_lit 50)) (y'_33 (nat_lit 51)) (y'_33 (nat_lit 52)) (y'_33 (nat_lit 53)) (y'_33 (nat_lit 54)) (y'_33 (nat_lit 55)) (y'_33 (nat_lit 56)) (y'_33 (nat_lit 57)) (y'_33 (nat_lit 58)) (y'_33 (nat_lit 59)) (y'_33 (nat_lit 60)) (y'_33 (nat_lit 61)) (y'_33 (nat_lit 62)) (y'_33 (nat_lit 63)) (y'_33 (nat_lit 64)) (y'_33 (nat_lit 65)) (y'_33 (nat_lit 66)) (y'_33 (nat_lit 67)) (y'_33 (nat_lit 68)) (y'_33 (nat_lit 69)) (y'_33 (nat_lit 70)) (y'_33 (nat_lit 71)) (y'_33 (nat_lit 72)) (y'_33 (nat_lit 73)) (y'_33 (nat_lit 74)) (y'_33 (nat_lit 75)) (y'_33 (nat_lit 76)) (y'_33 (nat_lit 77)) (y'_33 (nat_lit 78)) (y'_33 (nat_lit 79)) (y'_33 (nat_lit 80)) (y'_33 (nat_lit 81)) (y'_33 (nat_lit 82)) (y'_33 (nat_lit 83)) (y'_33 (nat_lit 84)) (y'_33 (nat_lit 85)) (y'_33 (nat_lit 86)) (y'_33 (nat_lit 87)) (y'_33 (nat_lit 88)) (y'_33 (nat_lit 89)) (y'_33 (nat_lit 90)) (y'_33 (nat_lit 91)) (y'_33 (nat_lit 92)) (y'_33 (nat_lit 93)) (y'_33 (nat_lit 94)) (y'_33 (nat_lit 95)) (y'_33 (nat_lit 96)) (y'_33 (nat_lit 97)) (y'_33 (nat_lit 98)) (y'_33 (nat_lit 99)) (y'_33 (nat_lit 100)) (y'_33 (101:Nat)) (y'_33 (102:Nat)) (y'_33 (103:Nat)) (y'_33 (104:Nat)) (y'_33 (105:Nat)) (y'_33 (106:Nat)) (y'_33 (107:Nat)) (y'_33 (108:Nat)) (y'_33 (109:Nat)) (y'_33 (110:Nat)) (y'_33 (111:Nat)) (y'_33 (112:Nat)) (y'_33 (113:Nat)) (y'_33 (114:Nat)) e'_34 k d s n k_29 d_30 s_31 n_32) [] 117
 else Q .normal (Ka L j) (vI a (fst f) (fst (snd f)) (fst (snd (snd f))) (fst (snd (snd (snd f)))) (snd (snd (snd (snd f)))) (y'_33 (nat_lit 0)) (y'_33 (nat_lit 1)) (y'_33 (nat_lit 2)) (y'_33 (nat_lit 3)) (y'_33 (nat_lit 4)) (y'_33 (nat_lit 5)) (y'_33 (nat_lit 6)) (y'_33 (nat_lit 7)) (y'_33 (nat_lit 8)) (y'_33 (nat_lit 9)) (y'_33 (nat_lit 10)) (y'_33 (nat_lit 11)) (y'_33 (nat_lit 12)) (y'_33 (nat_lit 13)) (y'_33 (nat_lit 14)) (y'_33 (nat_lit 15)) (y'_33 (nat_lit 16)) (y'_33 (nat_lit 17)) (y'_33 (nat_lit 18)) (y'_33 (nat_lit 19)) (y'_33 (nat_lit 20)) (y'_33 (nat_lit 21)) (y'_33 (nat_lit 22)) (y'_33 (nat_lit 23)) (y'_33 (nat_lit 24)) (y'_33 (nat_lit 25)) (y'_33 (nat_lit 26)) (y'_33 (nat_lit 27)) (y'_33 (nat_lit 28)) (y'_33 (nat_lit 29)) (y'_33 (nat_lit 30)) (y'_33 (nat_lit 31)) (y'_33 (nat_lit 32)) (y'_33 (nat_lit 33)) (y'_33 (nat_lit 34)) (y'_33 (nat_lit 35)) (y'_33 (nat_lit 36)) (y'_33 (nat_lit 37)) (y'_33 (nat_lit 38)) (y'_33 (nat_lit 39)) (y'_33 (nat_lit 40)) (y'_33 (nat_lit 41)) (y'_33 (nat_lit 42)) (y'_33 (nat_lit 43)) (y'_33 (nat_lit 44)) (y'_33 (nat_lit 45)) (y'_33 (nat_lit 46)) (y'_33 (nat_lit 47)) (y'_33 (nat_lit 48)) (y'_33 (nat_lit 49)) (y'_33 (nat_lit 50)) (y'_33 (nat_lit 51)) (y'_33 (nat_lit 52)) (y'_33 (nat_lit 53)) (y'_33 (nat_lit 54)) (y'_33 (nat_lit 55)) (y'_33 (nat_lit 56)) (y'_33 (nat_lit 57)) (y'_33 (nat_lit 58)) (y'_33 (nat_lit 59)) (y'_33 (nat_lit 60)) (y'_33 (nat_lit 61)) (y'_33 (nat_lit 62)) (y'_33 (nat_lit 63)) (y'_33 (nat_lit 64)) (y'_33 (nat_lit 65)) (y'_33 (nat_lit 66)) (y'_33 (nat_lit 67)) (y'_33 (nat_lit 68)) (y'_33 (nat_lit 69)) (y'_33 (nat_lit 70)) (y'_33 (nat_lit 71)) (y'_33 (nat_lit 72)) (y'_33 (nat_lit 73)) (y'_33 (nat_lit 74)) (y'_33 (nat_lit 75)) (y'_33 (nat_lit 76)) (y'_33 (nat_lit 77)) (y'_33 (nat_lit 78)) (y'_33 (nat_lit 79)) (y'_33 (nat_lit 80)) (y'_33 (nat_lit 81)) (y'_33 (nat_lit 82)) (y'_33 (nat_lit 83)) (y'_33 (nat_lit 84)) (y'_33 (nat_lit 85)) (y'_33 (nat_lit 86)) (y'_33 (nat_lit 87)) (y'_33 (nat_lit 88)) (y'_33 (nat_lit 89)) (y'_33 (nat_lit 90)) (y'_33 (nat_lit 91)) (y'_33 (nat_lit 92)) (y'_33 (nat_lit 93)) (y'_33 (nat_lit 94)) (y'_33 (nat_lit 95)) (y'_33 (nat_lit 96)) (y'_33 (nat_lit 97)) (y'_33 (nat_lit 98)) (y'_33 (nat_lit 99)) (y'_33 (nat_lit 100)) (y'_33 (101:Nat)) (y'_33 (102:Nat)) (y'_33 (103:Nat)) (y'_33 (104:Nat)) (y'_33 (105:Nat)) (y'_33 (106:Nat)) (y'_33 (107:Nat)) (y'_33 (108:Nat)) (y'_33 (109:Nat)) (y'_33 (110:Nat)) (y'_33 (111:Nat)) (y'_33 (112:Nat)) (y'_33 (113:Nat)) (y'_33 (114:Nat)) e'_34 k d s n k_29 d_30 s_31 n_32) [] 117))))))))))))))))))
 else (∃g_23:Nat × Int,(((@Eq (Nat) 0 0)∧
 ((@Eq (TV) (cR (fst f) (fst (snd f)) (fst (snd (snd f))) (fst (snd (snd (snd f)))) (snd (snd (snd (snd f))))) (cR (fst f) (fst (snd f)) (fst (snd (snd f))) (fst (snd (snd (snd f)))) (snd (snd (snd (snd f))))))∧
 ((@Eq (Bool) false false)∧
 PD (g_23) (rM a (fst f) (fst (snd f)) (fst (snd (snd f))) (fst (snd (snd (snd f)))) (snd (snd (snd (snd f)))) (y' (nat_lit 0)) (y' (nat_lit 1)) (y' (nat_lit 2)) (y' (nat_lit 3)) (y' (nat_lit 4)) (y' (nat_lit 5)) (y' (nat_lit 6)) (y' (nat_lit 7)) (y' (nat_lit 8)) (y' (nat_lit 9)) (y' (nat_lit 10)) (y' (nat_lit 11)) (y' (nat_lit 12)) (y' (nat_lit 13)) (y' (nat_lit 14)) (y' (nat_lit 15)) (y' (nat_lit 16)) (y' (nat_lit 17)) (y' (nat_lit 18)) (y' (nat_lit 19)) (y' (nat_lit 20)) (y' (nat_lit 21)) (y' (nat_lit 22)) (y' (nat_lit 23)) (y' (nat_lit 24)) (y' (nat_lit 25)) (y' (nat_lit 26)) (y' (nat_lit 27)) (y' (nat_lit 28)) (y' (nat_lit 29)) (y' (nat_lit 30)) (y' (nat_lit 31)) (y' (nat_lit 32)) (y' (nat_lit 33)) (y' (nat_lit 34)) (y' (nat_lit 35)) (y' (nat_lit 36)) (y' (nat_lit 37)) (y' (nat_lit 38)) (y' (nat_lit 39)) (y' (nat_lit 40)) (y' (nat_lit 41)) (y' (nat_lit 42)) (y' (nat_lit 43)) (y' (nat_lit 44)) (y' (nat_lit 45)) (y' (nat_lit 46)) (y' (nat_lit 47)) (y' (nat_lit 48)) (y' (nat_lit 49)) (y' (nat_lit 50)) (y' (nat_lit 51)) (y' (nat_lit 52)) (y' (nat_lit 53)) (y' (nat_lit 54)) (y' (nat_lit 55)) (y' (nat_lit 56)) (y' (nat_lit 57)) (y' (nat_lit 58)) (y' (nat_lit 59)) (y' (nat_lit 60)) (y' (nat_lit 61)) (y' (nat_lit 62)) (y' (nat_lit 63)) (y' (nat_lit 64)) (y' (nat_lit 65)) (y' (nat_lit 66)) (y' (nat_lit 67)) (y' (nat_lit 68)) (y' (nat_lit 69)) (y' (nat_lit 70)) (y' (nat_lit 71)) (y' (nat_lit 72)) (y' (nat_lit 73)) (y' (nat_lit 74)) (y' (nat_lit 75)) (y' (nat_lit 76)) (y' (nat_lit 77)) (y' (nat_lit 78)) (y' (nat_lit 79)) (y' (nat_lit 80)) (y' (nat_lit 81)) (y' (nat_lit 82)) (y' (nat_lit 83)) (y' (nat_lit 84)) (y' (nat_lit 85)) (y' (nat_lit 86)) (y' (nat_lit 87)) (y' (nat_lit 88)) (y' (nat_lit 89)) (y' (nat_lit 90)) (y' (nat_lit 91)) (y' (nat_lit 92)) (y' (nat_lit 93)) (y' (nat_lit 94)) (y' (nat_lit 95)) (y' (nat_lit 96)) (y' (nat_lit 97)) (y' (nat_lit 98)) (y' (nat_lit 99)) (y' (nat_lit 100)) (y' (101:Nat)) (y' (102:Nat)) (y' (103:Nat)) (y' (104:Nat)) (y' (105:Nat)) (y' (106:Nat)) (y' (107:Nat)) (y' (108:Nat)) (y' (109:Nat)) (y' (110:Nat)) (y' (111:Nat)) (y' (112:Nat)) (y' (113:Nat)) (y' (114:Nat)) e' k d s n))))∧
 (∀k_24:Int,(∀d_25:Int,(∀s_26:Int,(∀n_27:Bool,(∀y'_28:Nat→VO,(∀e'_29:VO,(WD (g_23) (k_24) (d_25) (s_26) (n_27) (rM a (fst f) (fst (snd f)) (fst (snd (snd f))) (fst (snd (snd (snd f)))) (snd (snd (snd (snd f)))) (y'_28 (nat_lit 0)) (y'_28 (nat_lit 1)) (y'_28 (nat_lit 2)) (y'_28 (nat_lit 3)) (y'_28 (nat_lit 4)) (y'_28 (nat_lit 5)) (y'_28 (nat_lit 6)) (y'_28 (nat_lit 7)) (y'_28 (nat_lit 8)) (y'_28 (nat_lit 9)) (y'_28 (nat_lit 10)) (y'_28 (nat_lit 11)) (y'_28 (nat_lit 12)) (y'_28 (nat_lit 13)) (y'_28 (nat_lit 14)) (y'_28 (nat_lit 15)) (y'_28 (nat_lit 16)) (y'_28 (nat_lit 17)) (y'_28 (nat_lit 18)) (y'_28 (nat_lit 19)) (y'_28 (nat_lit 20)) (y'_28 (nat_lit 21)) (y'_28 (nat_lit 22)) (y'_28 (nat_lit 23)) (y'_28 (nat_lit 24)) (y'_28 (nat_lit 25)) (y'_28 (nat_lit 26)) (y'_28 (nat_lit 27)) (y'_28 (nat_lit 28)) (y'_28 (nat_lit 29)) (y'_28 (nat_lit 30)) (y'_28 (nat_lit 31)) (y'_28 (nat_lit 32)) (y'_28 (nat_lit 33)) (y'_28 (nat_lit 34)) (y'_28 (nat_lit 35)) (y'_28 (nat_lit 36)) (y'_28 (nat_lit 37)) (y'_28 (nat_lit 38)) (y'_28 (nat_lit 39)) (y'_28 (nat_lit 40)) (y'_28 (nat_lit 41)) (y'_28 (nat_lit 42)) (y'_28 (nat_lit 43)) (y'_28 (nat_lit 44)) (y'_28 (nat_lit 45)) (y'_28 (nat_lit 46)) (y'_28 (nat_lit 47)) (y'_28 (nat_lit 48)) (y'_28 (nat_lit 49)) (y'_28 (nat_lit 50)) (y'_28 (nat_lit 51)) (y'_28 (nat_lit 52)) (y'_28 (nat_lit 53)) (y'_28 (nat_lit 54)) (y'_28 (nat_lit 55)) (y'_28 (nat_lit 56)) (y'_28 (nat_lit 57)) (y'_28 (nat_lit 58)) (y'_28 (nat_lit 59)) (y'_28 (nat_lit 60)) (y'_28 (nat_lit 61)) (y'_28 (nat_lit 62)) (y'_28 (nat_lit 63)) (y'_28 (nat_lit 64)) (y'_28 (nat_lit 65)) (y'_28 (nat_lit 66)) (y'_28 (nat_lit 67)) (y'_28 (nat_lit 68)) (y'_28 (nat_lit 69)) (y'_28 (nat_lit 70)) (y'_28 (nat_lit 71)) (y'_28 (nat_lit 72)) (y'_28 (nat_lit 73)) (y'_28 (nat_lit 74)) (y'_28 (nat_lit 75)) (y'_28 (nat_lit 76)) (y'_28 (nat_lit 77)) (y'_28 (nat_lit 78)) (y'_28 (nat_lit 79)) (y'_28 (nat_lit 80)) (y'_28 (nat_lit 81)) (y'_28 (nat_lit 82)) (y'_28 (nat_lit 83)) (y'_28 (nat_lit 84)) (y'_28 (nat_lit 85)) (y'_28 (nat_lit 86)) (y'_28 (nat_lit 87)) (y'_28 (nat_lit 88)) (y'_28 (nat_lit 89)) (y'_28 (nat_lit 90)) (y'_28 (nat_lit 91)) (y'_28 (nat_lit 92)) (y'_28 (nat_lit 93)) (y'_28 (nat_lit 94)) (y'_28 (nat_lit 95)) (y'_28 (nat_lit 96)) (y'_28 (nat_lit 97)) (y'_28 (nat_lit 98)) (y'_28 (nat_lit 99)) (y'_28 (nat_lit 100)) (y'_28 (101:Nat)) (y'_28 (102:Nat)) (y'_28 (103:Nat)) (y'_28 (104:Nat)) (y'_28 (105:Nat)) (y'_28 (106:Nat)) (y'_28 (107:Nat)) (y'_28 (108:Nat)) (y'_28 (109:Nat)) (y'_28 (110:Nat)) (y'_28 (111:Nat)) (y'_28 (112:Nat)) (y'_28 (113:Nat)) (y'_28 (114:Nat)) e'_29 k d s n)→(bif bN neq (k6 k_24 (1:Int))
 then Q .ret (sd L j) (vI a (fst f) (fst (snd f)) (fst (snd (snd f))) (fst (snd (snd (snd f)))) (snd (snd (snd (snd f)))) (y'_28 (nat_lit 0)) (y'_28 (nat_lit 1)) (y'_28 (nat_lit 2)) (y'_28 (nat_lit 3)) (y'_28 (nat_lit 4)) (y'_28 (nat_lit 5)) (y'_28 (nat_lit 6)) (y'_28 (nat_lit 7)) (y'_28 (nat_lit 8)) (y'_28 (nat_lit 9)) (y'_28 (nat_lit 10)) (y'_28 (nat_lit 11)) (y'_28 (nat_lit 12)) (y'_28 (nat_lit 13)) (y'_28 (nat_lit 14)) (y'_28 (nat_lit 15)) (y'_28 (nat_lit 16)) (y'_28 (nat_lit 17)) (y'_28 (nat_lit 18)) (y'_28 (nat_lit 19)) (y'_28 (nat_lit 20)) (y'_28 (nat_lit 21)) (y'_28 (nat_lit 22)) (y'_28 (nat_lit 23)) (y'_28 (nat_lit 24)) (y'_28 (nat_lit 25)) (y'_28 (nat_lit 26)) (y'_28 (nat_lit 27)) (y'_28 (nat_lit 28)) (y'_28 (nat_lit 29)) (y'_28 (nat_lit 30)) (y'_28 (nat_lit 31)) (y'_28 (nat_lit 32)) (y'_28 (nat_lit 33)) (y'_28 (nat_lit 34)) (y'_28 (nat_lit 35)) (y'_28 (nat_lit 36)) (y'_28 (nat_lit 37)) (y'_28 (nat_lit 38)) (y'_28 (nat_lit 39)) (y'_28 (nat_lit 40)) (y'_28 (nat_lit 41)) (y'_28 (nat_lit 42)) (y'_28 (nat_lit 43)) (y'_28 (nat_lit 44)) (y'_28 (nat_lit 45)) (y'_28 (nat_lit 46)) (y'_28 (nat_lit 47)) (y'_28 (nat_lit 48)) (y'_28 (nat_lit 49)) (y'_28 (nat_lit 50)) (y'_28 (nat_lit 51)) (y'_28 (nat_lit 52)) (y'_28 (nat_lit 53)) (y'_28 (nat_lit 54)) (y'_28 (nat_lit 55)) (y'_28 (nat_lit 56)) (y'_28 (nat_lit 57)) (y'_28 (nat_lit 58)) (y'_28 (nat_lit 59)) (y'_28 (nat_lit 60)) (y'_28 (nat_lit 61)) (y'_28 (nat_lit 62)) (y'_28 (nat_lit 63)) (y'_28 (nat_lit 64)) (y'_28 (nat_lit 65)) (y'_28 (nat_lit 66)) (y'_28 (nat_lit 67)) (y'_28 (nat_lit 68)) (y'_28 (nat_lit 69)) (y'_28 (nat_lit 70)) (y'_28 (nat_lit 71)) (y'_28 (nat_lit 72)) (y'_28 (nat_lit 73)) (y'_28 (nat_lit 74)) (y'_28 (nat_lit 75)) (y'_28 (nat_lit 76)) (y'_28 (nat_lit 77)) (y'_28 (nat_lit 78)) (y'_28 (nat_lit 79)) (y'_28 (nat_lit 80)) (y'_28 (nat_lit 81)) (y'_28 (nat_lit 82)) (y'_28 (nat_lit 83)) (y'_28 (nat_lit 84)) (y'_28 (nat_lit 85)) (y'_28 (nat_lit 86)) (y'_28 (nat_lit 87)) (y'_28 (nat_lit 88)) (y'_28 (nat_lit 89)) (y'_28 (nat_lit 90)) (y'_28 (nat_lit 91)) (y'_28 (nat_lit 92)) (y'_28 (nat_lit 93)) (y'_28 (nat_lit 94)) (y'_28 (nat_lit 95)) (y'_28 (nat_lit 96)) (y'_28 (nat_lit 97)) (y'_28 (nat_lit 98)) (y'_28 (nat_lit 99)) (y'_28 (nat_lit 100)) (y'_28 (101:Nat)) (y'_28 (102:Nat)) (y'_28 (103:Nat)) (y'_28 (104:Nat)) (y'_28 (105:Nat)) (y'_28 (106:Nat)) (y'_28 (107:Nat)) (y'_28 (108:Nat)) (y'_28 (109:Nat)) (y'_28 (110:Nat)) (y'_28 (111:Nat)) (y'_28 (112:Nat)) (y'_28 (113:Nat)) (y'_28 (114:Nat)) e'_29 k d s n k_24 d_25 s_26 n_27) [] 117
 else (bif bN neq (k6 d_25 d)
 then Q .ret (sd L j) (vI a (fst f) (fst (snd f)) (fst (snd (snd f))) (fst (snd (snd (snd f)))) (snd (snd (snd (snd f)))) (y'_28 (nat_lit 0)) (y'_28 (nat_lit 1)) (y'_28 (nat_lit 2)) (y'_28 (nat_lit 3)) (y'_28 (nat_lit 4)) (y'_28 (nat_lit 5)) (y'_28 (nat_lit 6)) (y'_28 (nat_lit 7)) (y'_28 (nat_lit 8)) (y'_28 (nat_lit 9)) (y'_28 (nat_lit 10)) (y'_28 (nat_lit 11)) (y'_28 (nat_lit 12)) (y'_28 (nat_lit 13)) (y'_28 (nat_lit 14)) (y'_28 (nat_lit 15)) (y'_28 (nat_lit 16)) (y'_28 (nat_lit 17)) (y'_28 (nat_lit 18)) (y'_28 (nat_lit 19)) (y'_28 (nat_lit 20)) (y'_28 (nat_lit 21)) (y'_28 (nat_lit 22)) (y'_28 (nat_lit 23)) (y'_28 (nat_lit 24)) (y'_28 (nat_lit 25)) (y'_28 (nat_lit 26)) (y'_28 (nat_lit 27)) (y'_28 (nat_lit 28)) (y'_28 (nat_lit 29)) (y'_28 (nat_lit 30)) (y'_28 (nat_lit 31)) (y'_28 (nat_lit 32)) (y'_28 (nat_lit 33)) (y'_28 (nat_lit 34)) (y'_28 (nat_lit 35)) (y'_28 (nat_lit 36)) (y'_28 (nat_lit 37)) (y'_28 (nat_lit 38)) (y'_28 (nat_lit 39)) (y'_28 (nat_lit 40)) (y'_28 (nat_lit 41)) (y'_28 (nat_lit 42)) (y'_28 (nat_lit 43)) (y'_28 (nat_lit 44)) (y'_28 (nat_lit 45)) (y'_28 (nat_lit 46)) (y'_28 (nat_lit 47)) (y'_28 (nat_lit 48)) (y'_28 (nat_lit 49)) (y'_28 (nat_lit 50)) (y'_28 (nat_lit 51)) (y'_28 (nat_lit 52)) (y'_28 (nat_lit 53)) (y'_28 (nat_lit 54)) (y'_28 (nat_lit 55)) (y'_28 (nat_lit 56)) (y'_28 (nat_lit 57)) (y'_28 (nat_lit 58)) (y'_28 (nat_lit 59)) (y'_28 (nat_lit 60)) (y'_28 (nat_lit 61)) (y'_28 (nat_lit 62)) (y'_28 (nat_lit 63)) (y'_28 (nat_lit 64)) (y'_28 (nat_lit 65)) (y'_28 (nat_lit 66)) (y'_28 (nat_lit 67)) (y'_28 (nat_lit 68)) (y'_28 (nat_lit 69)) (y'_28 (nat_lit 70)) (y'_28 (nat_lit 71)) (y'_28 (nat_lit 72)) (y'_28 (nat_lit 73)) (y'_28 (nat_lit 74)) (y'_28 (nat_lit 75)) (y'_28 (nat_lit 76)) (y'_28 (nat_lit 77)) (y'_28 (nat_lit 78)) (y'_28 (nat_lit 79)) (y'_28 (nat_lit 80)) (y'_28 (nat_lit 81)) (y'_28 (nat_lit 82)) (y'_28 (nat_lit 83)) (y'_28 (nat_lit 84)) (y'_28 (nat_lit 85)) (y'_28 (nat_lit 86)) (y'_28 (nat_lit 87)) (y'_28 (nat_lit 88)) (y'_28 (nat_lit 89)) (y'_28 (nat_lit 90)) (y'_28 (nat_lit 91)) (y'_28 (nat_lit 92)) (y'_28 (nat_lit 93)) (y'_28 (nat_lit 94)) (y'_28 (nat_lit 95)) (y'_28 (nat_lit 96)) (y'_28 (nat_lit 97)) (y'_28 (nat_lit 98)) (y'_28 (nat_lit 99)) (y'_28 (nat_lit 100)) (y'_28 (101:Nat)) (y'_28 (102:Nat)) (y'_28 (103:Nat)) (y'_28 (104:Nat)) (y'_28 (105:Nat)) (y'_28 (106:Nat)) (y'_28 (107:Nat)) (y'_28 (108:Nat)) (y'_28 (109:Nat)) (y'_28 (110:Nat)) (y'_28 (111:Nat)) (y'_28 (112:Nat)) (y'_28 (113:Nat)) (y'_28 (114:Nat)) e'_29 k d s n k_24 d_25 s_26 n_27) [] 117
 else (bif !n_27
 then Q .ret (sd L j) (vI a (fst f) (fst (snd f)) (fst (snd (snd f))) (fst (snd (snd (snd f)))) (snd (snd (snd (snd f)))) (y'_28 (nat_lit 0)) (y'_28 (nat_lit 1)) (y'_28 (nat_lit 2)) (y'_28 (nat_lit 3)) (y'_28 (nat_lit 4)) (y'_28 (nat_lit 5)) (y'_28 (nat_lit 6)) (y'_28 (nat_lit 7)) (y'_28 (nat_lit 8)) (y'_28 (nat_lit 9)) (y'_28 (nat_lit 10)) (y'_28 (nat_lit 11)) (y'_28 (nat_lit 12)) (y'_28 (nat_lit 13)) (y'_28 (nat_lit 14)) (y'_28 (nat_lit 15)) (y'_28 (nat_lit 16)) (y'_28 (nat_lit 17)) (y'_28 (nat_lit 18)) (y'_28 (nat_lit 19)) (y'_28 (nat_lit 20)) (y'_28 (nat_lit 21)) (y'_28 (nat_lit 22)) (y'_28 (nat_lit 23)) (y'_28 (nat_lit 24)) (y'_28 (nat_lit 25)) (y'_28 (nat_lit 26)) (y'_28 (nat_lit 27)) (y'_28 (nat_lit 28)) (y'_28 (nat_lit 29)) (y'_28 (nat_lit 30)) (y'_28 (nat_lit 31)) (y'_28 (nat_lit 32)) (y'_28 (nat_lit 33)) (y'_28 (nat_lit 34)) (y'_28 (nat_lit 35)) (y'_28 (nat_lit 36)) (y'_28 (nat_lit 37)) (y'_28 (nat_lit 38)) (y'_28 (nat_lit 39)) (y'_28 (nat_lit 40)) (y'_28 (nat_lit 41)) (y'_28 (nat_lit 42)) (y'_28 (nat_lit 43)) (y'_28 (nat_lit 44)) (y'_28 (nat_lit 45)) (y'_28 (nat_lit 46)) (y'_28 (nat_lit 47)) (y'_28 (nat_lit 48)) (y'_28 (nat_lit 49)) (y'_28 (nat_lit 50)) (y'_28 (nat_lit 51)) (y'_28 (nat_lit 52)) (y'_28 (nat_lit 53)) (y'_28 (nat_lit 54)) (y'_28 (nat_lit 55)) (y'_28 (nat_lit 56)) (y'_28 (nat_lit 57)) (y'_28 (nat_lit 58)) (y'_28 (nat_lit 59)) (y'_28 (nat_lit 60)) (y'_28 (nat_lit 61)) (y'_28 (nat_lit 62)) (y'_28 (nat_lit 63)) (y'_28 (nat_lit 64)) (y'_28 (nat_lit 65)) (y'_28 (nat_lit 66)) (y'_28 (nat_lit 67)) (y'_28 (nat_lit 68)) (y'_28 (nat_lit 69)) (y'_28 (nat_lit 70)) (y'_28 (nat_lit 71)) (y'_28 (nat_lit 72)) (y'_28 (nat_lit 73)) (y'_28 (nat_lit 74)) (y'_28 (nat_lit 75)) (y'_28 (nat_lit 76)) (y'_28 (nat_lit 77)) (y'_28 (nat_lit 78)) (y'_28 (nat_lit 79)) (y'_28 (nat_lit 80)) (y'_28 (nat_lit 81)) (y'_28 (nat_lit 82)) (y'_28 (nat_lit 83)) (y'_28 (nat_lit 84)) (y'_28 (nat_lit 85)) (y'_28 (nat_lit 86)) (y'_28 (nat_lit 87)) (y'_28 (nat_lit 88)) (y'_28 (nat_lit 89)) (y'_28 (nat_lit 90)) (y'_28 (nat_lit 91)) (y'_28 (nat_lit 92)) (y'_28 (nat_lit 93)) (y'_28 (nat_lit 94)) (y'_28 (nat_lit 95)) (y'_28 (nat_lit 96)) (y'_28 (nat_lit 97)) (y'_28 (nat_lit 98)) (y'_28 (nat_lit 99)) (y'_28 (nat_lit 100)) (y'_28 (101:Nat)) (y'_28 (102:Nat)) (y'_28 (103:Nat)) (y'_28 (104:Nat)) (y'_28 (105:Nat)) (y'_28 (106:Nat)) (y'_28 (107:Nat)) (y'_28 (108:Nat)) (y'_28 (109:Nat)) (y'_28 (110:Nat)) (y'_28 (111:Nat)) (y'_28 (112:Nat)) (y'_28 (113:Nat)) (y'_28 (114:Nat)) e'_29 k d s n k_24 d_25 s_26 n_27) [] 117
 else Q .normal (Ka L j) (vI a (fst f) (fst (snd f)) (fst (snd (snd f))) (fst (snd (snd (snd f)))) (snd (snd (snd (snd f)))) (y'_28 (nat_lit 0)) (y'_28 (nat_lit 1)) (y'_28 (nat_lit 2)) (y'_28 (nat_lit 3)) (y'_28 (nat_lit 4)) (y'_28 (nat_lit 5)) (y'_28 (nat_lit 6)) (y'_28 (nat_lit 7)) (y'_28 (nat_lit 8)) (y'_28 (nat_lit 9)) (y'_28 (nat_lit 10)) (y'_28 (nat_lit 11)) (y'_28 (nat_lit 12)) (y'_28 (nat_lit 13)) (y'_28 (nat_lit 14)) (y'_28 (nat_lit 15)) (y'_28 (nat_lit 16)) (y'_28 (nat_lit 17)) (y'_28 (nat_lit 18)) (y'_28 (nat_lit 19)) (y'_28 (nat_lit 20)) (y'_28 (nat_lit 21)) (y'_28 (nat_lit 22)) (y'_28 (nat_lit 23)) (y'_28 (nat_lit 24)) (y'_28 (nat_lit 25)) (y'_28 (nat_lit 26)) (y'_28 (nat_lit 27)) (y'_28 (nat_lit 28)) (y'_28 (nat_lit 29)) (y'_28 (nat_lit 30)) (y'_28 (nat_lit 31)) (y'_28 (nat_lit 32)) (y'_28 (nat_lit 33)) (y'_28 (nat_lit 34)) (y'_28 (nat_lit 35)) (y'_28 (nat_lit 36)) (y'_28 (nat_lit 37)) (y'_28 (nat_lit 38)) (y'_28 (nat_lit 39)) (y'_28 (nat_lit 40)) (y'_28 (nat_lit 41)) (y'_28 (nat_lit 42)) (y'_28 (nat_lit 43)) (y'_28 (nat_lit 44)) (y'_28 (nat_lit 45)) (y'_28 (nat_lit 46)) (y'_28 (nat_lit 47)) (y'_28 (nat_lit 48)) (y'_28 (nat_lit 49)) (y'_28 (nat_lit 50)) (y'_28 (nat_lit 51)) (y'_28 (nat_lit 52)) (y'_28 (nat_lit 53)) (y'_28 (nat_lit 54)) (y'_28 (nat_lit 55)) (y'_28 (nat_lit 56)) (y'_28 (nat_lit 57)) (y'_28 (nat_lit 58)) (y'_28 (nat_lit 59)) (y'_28 (nat_lit 60)) (y'_28 (nat_lit 61)) (y'_28 (nat_lit 62)) (y'_28 (nat_lit 63)) (y'_28 (nat_lit 64)) (y'_28 (nat_lit 65)) (y'_28 (nat_lit 66)) (y'_28 (nat_lit 67)) (y'_28 (nat_lit 68)) (y'_28 (nat_lit 69)) (y'_28 (nat_lit 70)) (y'_28 (nat_lit 71)) (y'_28 (nat_lit 72)) (y'_28 (nat_lit 73)) (y'_28 (nat_lit 74)) (y'_28 (nat_lit 75)) (y'_28 (nat_lit 76)) (y'_28 (nat_lit 77)) (y'_28 (nat_lit 78)) (y'_28 (nat_lit 79)) (y'_28 (nat_lit 80)) (y'_28 (nat_lit 81)) (y'_28 (nat_lit 82)) (y'_28 (nat_lit 83)) (y'_28 (nat_lit 84)) (y'_28 (nat_lit 85)) (y'_28 (nat_lit 86)) (y'_28 (nat_lit 87)) (y'_28 (nat_lit 88)) (y'_28 (nat_lit 89)) (y'_28 (nat_lit 90)) (y'_28 (nat_lit 91)) (y'_28 (nat_lit 92)) (y'_28 (nat_lit 93)) (y'_28 (nat_lit 94)) (y'_28 (nat_lit 95)) (y'_28 (nat_lit 96)) (y'_28 (nat_lit 97)) (y'_28 (nat_lit 98)) (y'_28 (nat_lit 99)) (y'_28 (nat_lit 100)) (y'_28 (101:Nat)) (y'_28 (102:Nat)) (y'_28 (103:Nat)) (y'_28 (104:Nat)) (y'_28 (105:Nat)) (y'_28 (106:Nat)) (y'_28 (107:Nat)) (y'_28 (108:Nat)) (y'_28 (109:Nat)) (y'_28 (110:Nat)) (y'_28 (111:Nat)) (y'_28 (112:Nat)) (y'_28 (113:Nat)) (y'_28 (114:Nat)) e'_29 k d s n k_24 d_25 s_26 n_27) [] 117))))))))))))))))))))
 else Q (.exit 0) (sd L j) ⟨[(a),(.cells [(.val (.int .i64 (fst f))),(.val (.int .u32 (fst (snd f)))),(.val (.int .u32 (fst (snd (snd f))))),(.val (.int .i64 (fst (snd (snd (snd f)))))),(.val (.int .i64 (snd (snd (snd (snd f))))))])]++(aB y++ [(y (101:Nat)),(y (102:Nat)),(y (103:Nat)),(y (104:Nat)),(y (105:Nat)),(y (106:Nat)),(y (107:Nat)),(y (108:Nat)),(y (109:Nat)),(y (110:Nat)),(y (111:Nat)),(y (112:Nat)),(y (113:Nat)),(y (114:Nat)),(.cells [(.ptr 6 0),(.ptr 8 0),(.ptr 11 0),(.ptr 12 0),(.ptr 13 0),(.ptr 14 0)]),(e),(.cells [(.val (.int .i64 (k))),(.val (.int .i64 (d))),(.val (.int .i64 (s))),(.val (.bool (n)))])]),[]⟩ [] 117):=by kernel_rfl
set_option maxRecDepth 100000
section
open Go.RowKit Go.Maps Go.Sort
section
variable {i:MdI}{f:Fl}{now:Int}{tun:Bool}
theorem GM (h:MdB i)(hk:(fZ i f now tun).1=1):(bq i.S (fZ i f now tun).2.1).2.1=true:=by
 unfold fZ at hk ⊢
 cases h1:(jW i f).2 with
 |true=>
  rw [cond_true]
  simp only [jW,and_eq_true] at h1 ⊢
  exact h1.2
 |false=>
  rw [h1,cond_false] at hk
  rw [cond_false]
  cases h2:(mq i f).2 with
  |true=>
   rw [cond_true]
   simp only [mq,and_eq_true] at h2
   obtain ⟨bst,hp⟩:=Option.isSome_iff_exists.1 h2.1
   simp only [mq,hp,getD_some]
   exact HJ h.nd (Dc hp).1
  |false=>
   rw [h2,cond_false] at hk
   cases h3:(oy i now tun).2 with
   |true=>rw [h3,cond_true] at hk;exact absurd hk (by simp [oy])
   |false=>rw [h3,cond_false] at hk;exact absurd hk (by decide)
theorem HN {b:Int}(hb:dQ i f=some b):∃e,fY i.lk i.x f=some e∧e.2.1=b:=by
 unfold dQ at hb
 cases hp:fY i.lk i.x f with
 |none=>rw [hp] at hb;cases hb
 |some e=>rw [hp] at hb;injection hb with hb;exact ⟨e,rfl,hb⟩
theorem FC {b:Int}(hb:dQ i f=some b)(hu:(bq i.S b).2.1=true):fZ i f now tun=(1,b,0,true):=by
 obtain ⟨e,he,rfl⟩:=HN hb
 have h1:(jW i f).2=true:=by simp only [jW,he,getD_some,Option.isSome_some,hu];rfl
 unfold fZ
 rw [h1,cond_true]
 simp only [jW,he,getD_some]
end
section
variable {i:MdI}{f:Fl}{now:Int}{tun:Bool}
theorem Mp (hn:(fZ i f now tun).2.2.2=true):dQ i f=some (fZ i f now tun).2.1:=by
 unfold fZ at hn ⊢
 cases h1:(jW i f).2 with
 |true=>
  rw [cond_true]
  simp only [jW,and_eq_true] at h1 ⊢
  obtain ⟨e,he⟩:=Option.isSome_iff_exists.1 h1.1
  simp only [dQ,he,map_some,getD_some]
 |false=>
  rw [h1,cond_false] at hn
  cases h2:(mq i f).2 with
  |true=>rw [h2,cond_true] at hn;exact absurd hn (by simp [mq])
  |false=>
   rw [h2,cond_false] at hn
   cases h3:(oy i now tun).2 with
   |true=>rw [h3,cond_true] at hn;exact absurd hn (by simp [oy])
   |false=>rw [h3,cond_false] at hn;exact absurd hn (by decide)
structure Kb (i:MdI) (f:Fl) (x:TV) (i':MdI):Prop where
 x1:∃(c:Int) (q:Bool),x=.tup [.val (.int .i64 c),.val (.bool q)]
 okB:MdB i'
 eS:i'.S=i.S
 eO:i'.O=i.O
 em:i'.m=i.m
 bk:dQ i' f=dQ i f
theorem Mq (h:MdB i)(f:Fl)(now:Int)(hk:(dQ i f).isSome=true):VCx prog ae 0 GK [.ptr 6 0,.agg (au f),.val (.int .i64 now)] i.Z λx T'=>∃i',Kb i f x i'∧T'=i'.Z:=by
 refine tN (k:=101-i.m+0) (λx i' hr=>by obtain ⟨c,q,rfl⟩:=hr.x1;exact λ_ _=>rfl) ?_
 rw [wH h [] rfl]
 have hn:=h.fl.hn
 cases hl:i.lk (da f) with
 |none=>simp [dQ,fY,hl] at hk
 |some v=>
  obtain ⟨j,hj,rfl⟩:=h.fl.map _ _ hl
  have hp:bU i.m (16+j):=.inr ⟨by omega,by omega⟩
  let now':Int:=if now>i.now then now else i.now
  obtain ⟨e0,a0,c0,p1,p2,_⟩:=pJ h.fl hj i.O i.lk i.es i.ck now' i.came i.went [.cells (au f)]
  obtain ⟨T2,r2,k2,hv2⟩:=uM (h.fl.at i.O i.lk i.es i.ck now' i.came i.went [.cells (au f)]) hp
  obtain ⟨rg1,x1,hT2,h1⟩:=h.fl.next r2 k2
  subst hT2
  obtain ⟨e,a,c,q1,q2,qa,qc⟩:=pJ h1 hj i.O i.lk i.es i.ck now' i.came i.went [.cells (au f)]
  obtain ⟨T4,r4,k4,hv4⟩:=rY (V:=bU i.m) (T:=fy i.O rg1 i.lk i.es i.ck now' i.came i.went x1 [.cells (au f)]) (p:=16+j) (now:=now') (came:=i.came) (went:=i.went) (h1.at i.O i.lk i.es i.ck now' i.came i.went [.cells (au f)]) rfl (.inl rfl) (by unfold bU;omega) (by omega) (by omega) q1 rfl rfl
  have hV:∀q,(bU i.m q∨q=16+j) ↔ bU i.m q:=λq=>⟨λk=>k.elim id λk=>k▸hp,.inl⟩
  have r4':fe (bU i.m) T4:=λq hq=>by
   obtain ⟨e,a,c,g1,g2,g3⟩:=r4 q (.inl hq)
   exact ⟨e,a,c,g1,(hV a).1 g2,(hV c).1 g3⟩
  obtain ⟨rg3,x3,hT4,h3⟩:=h1.nextQ (T2:=T4) r4' k4.len k4.tails λj hj=>k4.off j λk=>hj ((hV j).1 k)
  subst hT4
  obtain ⟨e1,u1,v1,g1,_,g2⟩:=k2.kept (16+j) e0 _ _ hp p1
  obtain ⟨e5,u5,v5,g5,_,g6⟩:=k4.kept (16+j) e _ _ (.inr rfl) q1
  obtain ⟨e6,a6,c6,q6,q7,_⟩:=pJ h3 hj i.O i.lk i.es i.ck now' i.came i.went [.cells (au f)]
  have hb:e6.2.1=e0.2.1:=by
   rw [q6] at g5;injection g5 with g5
   obtain ⟨rfl,_⟩:=ng g5
   rw [q1] at g1;injection g1 with g1
   obtain ⟨rfl,_⟩:=ng g1
   exact g6.trans g2
  have h4:=h.next h3 i.ck now' i.came i.went
  have hC:aQ prog ae (az [(vW,Ad (16+j) (λT=>T=fy i.O i.rg i.lk i.es i.ck now' i.came i.went i.x [.cells (au f)]) rg1 x1),(vX,Gf (16+j) (λT=>T=fy i.O rg1 i.lk i.es i.ck now' i.came i.went x1 [.cells (au f)]) rg3 x3)]):=aE λq hq=>by
   simp only [mem_cons,not_mem_nil,or_false] at hq
   rcases hq with rfl | rfl
   ·rintro ro ys T K ⟨⟨rfl,rfl,rfl⟩,hk⟩
    refine hv2.mono ?_
    rintro r T' ⟨rfl,rfl⟩
    rw [pI] at hk
    exact hk
   ·rintro ro ys T K ⟨⟨rfl,rfl,rfl⟩,hk⟩
    refine hv4.mono ?_
    rintro r T' ⟨rfl,rfl⟩
    rw [pI] at hk
    exact hk
  obtain ⟨inf,i1,_⟩:=yF
  refine ap ah ag hC ak (J6 i.O i.rg i.lk i.es i.ck i.now i.came i.went i.x rg1 rg3 x1 x3 (16+j) f e6.2.1 now _ _ _) ?_
  refine ⟨dJ ((gT (T:=fy i.O i.rg i.lk i.es i.ck now' i.came i.went i.x [.cells (au f)]) (lk:=i.lk) (es:=i.es) (ck:=i.ck) rfl).trans (by rw [hl];rfl)),⟨rfl,rfl,rfl⟩,⟨rfl,rfl,rfl⟩,mG (inf:=inf) Tryz.underlying3 rfl i1 rfl q6 rfl,?_⟩
  refine ⟨_,List.range (16+i.m),⟨⟨_,_,rfl⟩,h4,rfl,rfl,rfl,?_⟩,jr h4 nl,λj hj=>getElem?_range hj⟩
  simp only [dQ,fY,hl,map_some,Nat.add_sub_cancel_left,q7,p2,cK,yW,hb]
structure Kc (i:MdI) (x:TV) (i':MdI):Prop where
 x1:∃q:Bool,x=.val (.bool q)
 okB:MdB i'
 eS:i'.S=i.S
 eO:i'.O=i.O
 em:i'.m=i.m
theorem Mr (h:MdB i)(f:Fl):VCx prog ae 0 D4 [.ptr 6 0,.agg (au f)] i.Z λx T'=>∃i',Kc i x i'∧T'=i'.Z:=by
 refine tN (k:=101-i.m+0) (λx i' hr=>by obtain ⟨q,rfl⟩:=hr.x1;exact λ_ _=>rfl) ?_
 rw [wH h [] rfl]
 have hn:=h.fl.hn
 cases hl:i.lk (da f) with
 |none=>
  refine ap ah ag aw ak (J8 i.O i.rg i.lk i.es i.ck i.now i.came i.went i.x f _) ?_
  exact ⟨dJ ((gT (lk:=i.lk) (es:=i.es) (ck:=i.ck) rfl).trans (by rw [hl];rfl)),i,List.range (16+i.m),⟨⟨_,rfl⟩,h,rfl,rfl,rfl⟩,jr h nl,λj hj=>getElem?_range hj⟩
 |some v=>
  obtain ⟨j,hj,rfl⟩:=h.fl.map _ _ hl
  have hp:bU i.m (16+j):=.inr ⟨by omega,by omega⟩
  obtain ⟨rg1,x1,f1,g1,_,hv⟩:=yH (o:=i.O) (ck:=i.ck) (now:=i.now) (came:=i.came) (went:=i.went) (y:= [.cells (au f)]) h.fl hp
  have hC:aQ prog ae (az [(yD,Dv (16+j) (λT=>T=fy i.O i.rg i.lk i.es i.ck i.now i.came i.went i.x [.cells (au f)]) rg1 (.map kF (lA f1 i.lk) (df (da f1) i.es) i.ck) x1)]):=aE λq hq=>by
   obtain rfl:=mem_singleton.1 hq
   rintro ro ys T K ⟨⟨rfl,rfl,rfl⟩,hk⟩
   refine hv.mono ?_
   rintro r T' ⟨rfl,rfl⟩
   exact hk
  have h4:=h.next g1 i.ck i.now i.came i.went
  refine ap ah ag hC ak (J7 i.O i.rg i.lk i.es i.ck i.now i.came i.went i.x rg1 (.map kF (lA f1 i.lk) (df (da f1) i.es) i.ck) x1 (16+j) f _ _) ?_
  exact ⟨dJ ((gT (lk:=i.lk) (es:=i.es) (ck:=i.ck) rfl).trans (by rw [hl];rfl)),dJ ((gT (lk:=i.lk) (es:=i.es) (ck:=i.ck) rfl).trans (by rw [hl];rfl)),⟨rfl,rfl,rfl⟩,_,List.range (16+i.m),⟨⟨_,rfl⟩,h4,rfl,rfl,rfl⟩,jr h4 nl,λj hj=>getElem?_range hj⟩
end
theorem AtL.congr {T T2:VT}{is:List Nat}{i:MdI}(h:AtL T is i)(he:∀j∈is,T2.objs[j]?=T.objs[j]?):AtL T2 is i:=by
 refine ⟨h.nds,h.len,h.low,λj hj=> ?_,?_⟩
 ·obtain ⟨o,h1,h2⟩:=h.lives j hj
  exact ⟨o,(he j hj).trans h1,h2⟩
 ·rw [←h.give]
  simp only [VT.give,map_nil]
  congr 1
  exact List.map_congr_left λj hj=>by rw [he j hj]
theorem AtL.app {T:VT}{is:List Nat}{i:MdI}(h:AtL T is i)(l:List VO):AtL ⟨T.objs++l,T.tails⟩ is i:=
 h.congr λj hj=>getElem?_append_left (h.lt j hj)
theorem uZ {T:VT}{a b:VO}(ht:T.tails= [])(hl:117≤T.objs.length)(h0:T.objs[0]?=some a)(h1:T.objs[1]?=some b):∃y,T=rT a b y (T.objs.drop 117):=by
 obtain ⟨L,tl⟩:=T
 simp only at ht hl h0 h1
 subst ht
 match L,hl,h0,h1 with
 |a'::b'::r,hl,h0,h1=>
  simp only [List.getElem?_cons_zero,List.getElem?_cons_succ,Option.some.injEq] at h0 h1
  subst h0
  subst h1
  refine ⟨λk=>(r.take 115)[k]?.getD .gone,?_⟩
  rw [Ap _ _ _ _ (by simp only [length_cons] at hl;rw [List.length_take];omega)]
  show (⟨_,[]⟩:VT)=⟨_,[]⟩
  rw [show (a'::b'::r).drop 117=r.drop 115 from rfl,List.take_append_drop]
structure L8 (i:MdI) (f:Fl) (now:Int) (x:TV) (i':MdI):Prop where
 x1:x=.agg (cW (fZ i f now false))
 okB:MdB i'
 eS:i'.S=i.S
 eO:i'.O=i.O
 m0:i.m≤i'.m
 m1:i'.m≤i.m+1
 mkn:(dQ i f).isSome=true→i'.m=i.m
 bk:(fZ i f now false).1=1→dQ i' f=some (fZ i f now false).2.1
theorem Ms (k d s:Int)(n:Bool):bN eql (am (.agg #[.int .i64 k,.int .i64 d,.int .i64 s,.bool n]) (.agg #[.int .i64 1,.int .i64 d,.int .i64 0,.bool true]))=decide (k=1∧s=0∧n=true):=by
 simp [bN,am,dx,cG,Bool.beq_eq_decide_eq]
section
variable {i:MdI}{f:Fl}{now:Int}{a b:VO}
def PreZ (i:MdI)(T:VT):Prop:=T.tails= []∧T.objs.take 117=(i.T []).objs
theorem PreZ.atl {T:VT}(h:MdB i)(hp:PreZ i T):AtL T (List.range (16+i.m)) i:=jr h hp.2
theorem PreZ.len {T:VT}(hp:PreZ i T):117≤T.objs.length:=by
 have:=congrArg length hp.2
 rw [MdI.T,ed,List.length_take] at this
 simp only [length_nil] at this
 omega
theorem wg {n m m':Nat}(h:m'=m):bX n (List.range (16+m)) (16+m')=List.range (16+m):=by
 subst h
 unfold bX
 rw [length_range,Nat.sub_self]
 simp
theorem As {T:VT}{i':MdI}(h:MdB i)(hp:PreZ i T)(ha:∀f g,a.ren f g=a)(hb:∀f g,b.ren f g=b)(hm:i'.m=i.m)(h0:i'.O 0=a)(h1:i'.O 1=b):∃y,T.back (List.range (16+i.m)) [] i'.Z=uY T a b y:=by
 have hA:=hp.atl h
 obtain ⟨b1,b2,b3⟩:=od hA (i':=i') (by omega)
 have hl:=hp.len
 have hn:=h.fl.hn
 obtain ⟨y,hy⟩:=uZ (T:=T.back (List.range (16+i.m)) [] i'.Z) (b2.trans hp.1) (by omega) (jq hA (by omega) (j:=0) (by decide) (o:=a) (by rw [←h0];rfl) ha) (jq hA (by omega) (j:=1) (by decide) (o:=b) (by rw [←h1];rfl) hb)
 refine ⟨y,hy.trans ?_⟩
 unfold uY
 congr 1
 apply ext_getElem?
 intro k
 rw [getElem?_drop,getElem?_drop]
 rcases lt_or_ge (117+k) T.objs.length with h3 | h3
 ·exact b3 _ h3 λhin=>by have:=mem_range.1 hin;omega
 ·rw [getElem?_eq_none (by omega),getElem?_eq_none (by omega)]
theorem HO {T:VT}{i':MdI}(h:MdB i)(hp:PreZ i T)(ha:∀f g,a.ren f g=a)(hb:∀f g,b.ren f g=b)(hm0:i.m≤i'.m)(hm:i'.m≤i.m+1)(h0:i'.O 0=a)(h1:i'.O 1=b):∃k y e,(T.back (List.range (16+i.m)) [] i'.Z).pad k=sa T a b y e:=by
 have hA:=hp.atl h
 obtain ⟨b1,b2,b3⟩:=od hA (i':=i') hm0
 have hl:=hp.len
 have hn:=h.fl.hn
 have hpl:∀k,((T.back (List.range (16+i.m)) [] i'.Z).pad k).objs.length=(T.back (List.range (16+i.m)) [] i'.Z).objs.length+k:=λk=>by simp only [VT.pad,length_append,List.length_replicate]
 have hp2:∀k j,j<(T.back (List.range (16+i.m)) [] i'.Z).objs.length→((T.back (List.range (16+i.m)) [] i'.Z).pad k).objs[j]?=(T.back (List.range (16+i.m)) [] i'.Z).objs[j]?:=λk j hj=>getElem?_append_left hj
 obtain ⟨k,hk⟩:∃k,k=T.objs.length+1-(T.back (List.range (16+i.m)) [] i'.Z).objs.length:=⟨_,rfl⟩
 have hlen:((T.back (List.range (16+i.m)) [] i'.Z).pad k).objs.length=T.objs.length+1:=by rw [hpl];omega
 obtain ⟨y,hy⟩:=uZ (T:=(T.back (List.range (16+i.m)) [] i'.Z).pad k) (b2.trans hp.1) (by omega) ((hp2 _ _ (by omega)).trans (jq hA hm0 (j:=0) (by decide) (o:=a) (by rw [←h0];rfl) ha)) ((hp2 _ _ (by omega)).trans (jq hA hm0 (j:=1) (by decide) (o:=b) (by rw [←h1];rfl) hb))
 refine ⟨k,y,((T.back (List.range (16+i.m)) [] i'.Z).pad k).objs[T.objs.length]?.getD .gone,hy.trans ?_⟩
 have he:((T.back (List.range (16+i.m)) [] i'.Z).pad k).objs[T.objs.length]?=some (((T.back (List.range (16+i.m)) [] i'.Z).pad k).objs[T.objs.length]?.getD .gone):=by
  have e:((T.back (List.range (16+i.m)) [] i'.Z).pad k).objs[T.objs.length]?=some (((T.back (List.range (16+i.m)) [] i'.Z).pad k).objs[T.objs.length]'(by omega)):=List.getElem?_eq_getElem (by omega)
  rw [e];rfl
 generalize ((T.back (List.range (16+i.m)) [] i'.Z).pad k).objs[T.objs.length]?.getD .gone=e at he
 unfold sa
 congr 1
 apply ext_getElem?
 intro q
 rw [getElem?_drop]
 have hdl:(T.objs.drop 117).length=T.objs.length-117:=length_drop
 rcases lt_or_ge (117+q) T.objs.length with h3 | h3
 ·rw [hp2 _ _ (by omega),b3 _ h3 λhin=>by have:=mem_range.1 hin;omega,getElem?_append_left (by omega),getElem?_drop]
 ·rw [List.getElem?_append_right (by omega),hdl]
  rcases lt_or_ge T.objs.length (117+q) with h4 | h4
  ·rw [getElem?_eq_none (by omega),getElem?_eq_none (by simp only [length_cons,length_nil];omega)]
  ·have h5:117+q=T.objs.length:=by omega
   rw [h5,he,show q-(T.objs.length-117)=0 by omega];rfl
def L9 (i:MdI)(f:Fl)(T':VT):Prop:=∃x i',Kb i f x i'∧AtL T' (List.range (16+i.m)) i'
def Ma (i:MdI)(T':VT):Prop:=∃x i',Kc i x i'∧AtL T' (List.range (16+i.m)) i'
def Mc (i:MdI)(f:Fl)(c:Int)(T':VT):Prop:=∃x i' is,J3 i f c x i'∧AtL T' is i'∧(∀j,j<16+i.m→is[j]?=some j)∧∀j∈is,j<117∨j+1=T'.objs.length
theorem sf {j m:Nat}(hj:j<16):aj (List.range (16+m)) j=some j:=jV (by omega)
theorem Kd (h:MdB i)(ha:∀f g,(i.O 0).ren f g=i.O 0)(hb:∀f g,(i.O 1).ren f g=i.O 1):∀ro ys T K,L3 (i.O 0) (i.O 1) f now (λT=>PreZ i T∧(dQ i f).isSome=true) (L9 i f) ro ys T K→VCx prog ae ro GK ys T K:=by
 rintro ro ys T K ⟨⟨rfl,rfl,hp,hs⟩,hk⟩
 refine (pV (hp.atl h) (R:=Kb i f) (by simp only [av,TV.ren,sf (show 6<16 by decide),au,bQ]) (λx i' hr=>⟨by obtain ⟨c,q,rfl⟩:=hr.x1;exact λ_ _=>rfl,hr.okB,by rw [hr.em];exact le_refl _⟩) (Mq h f now hs)).mono ?_
 rintro r T' ⟨i',hr,rfl,hat⟩
 obtain ⟨y,hy⟩:=As h hp ha hb hr.em (by rw [hr.eO]) (by rw [hr.eO])
 obtain ⟨c,q,rfl⟩:=id hr.x1
 rw [wg hr.em] at hat
 rw [hy] at hat ⊢
 exact hk c q y ⟨_,i',hr,hat⟩
theorem Ke (h:MdB i)(ha:∀f g,(i.O 0).ren f g=i.O 0)(hb:∀f g,(i.O 1).ren f g=i.O 1):∀ro ys T K,L4 (i.O 0) (i.O 1) f (PreZ i) (Ma i) ro ys T K→VCx prog ae ro D4 ys T K:=by
 rintro ro ys T K ⟨⟨rfl,rfl,hp⟩,hk⟩
 refine (pV (hp.atl h) (R:=Kc i) (by simp only [av,TV.ren,sf (show 6<16 by decide),au,bQ]) (λx i' hr=>⟨by obtain ⟨q,rfl⟩:=hr.x1;exact λ_ _=>rfl,hr.okB,by rw [hr.em];exact le_refl _⟩) (Mr h f)).mono ?_
 rintro r T' ⟨i',hr,rfl,hat⟩
 obtain ⟨y,hy⟩:=As h hp ha hb hr.em (by rw [hr.eO]) (by rw [hr.eO])
 obtain ⟨q,rfl⟩:=id hr.x1
 rw [wg hr.em] at hat
 rw [hy] at hat ⊢
 exact hk q y ⟨_,i',hr,hat⟩
theorem Kf (h:MdB i)(hm:i.m≤100∨(dQ i f).isSome=true)(ha:∀f g,(i.O 0).ren f g=i.O 0)(hb:∀f g,(i.O 1).ren f g=i.O 1):∀ro ys T K,J4 (i.O 0) (i.O 1) f now (PreZ i) (Mc i f) ro ys T K→VCx prog ae ro pG ys T K:=by
 intro ro ys T K h9
 unfold J4 at h9
 split at h9
 ·rename_i x c t
  obtain ⟨⟨rfl,rfl,rfl,hp⟩,hk⟩:=h9
  refine VCx.padQ ((pV (hp.atl h) (R:=J3 i f c) (by simp only [av,TV.ren,sf (show 6<16 by decide),au,bQ]) (λx i' hr=>⟨by obtain ⟨en,q,rfl⟩:=hr.x1;exact λ_ _=>rfl,hr.ok,hr.m0⟩) (Mn h f c t hm)).mono ?_)
  rintro r T' ⟨i',hr,rfl,hat⟩
  obtain ⟨k,y,e,hy⟩:=HO h hp ha hb hr.m0 hr.m1 (by rw [hr.eO]) (by rw [hr.eO])
  obtain ⟨en,q,rfl⟩:=id hr.x1
  have hat2:=hat.app (List.replicate k .gone)
  have e2:(⟨(T.back (List.range (16+i.m)) [] i'.Z).objs++List.replicate k .gone,(T.back (List.range (16+i.m)) [] i'.Z).tails⟩:VT)=sa T (i.O 0) (i.O 1) y e:=hy
  rw [e2] at hat2
  refine ⟨k,?_⟩
  rw [hy]
  have hlen:(sa T (i.O 0) (i.O 1) y e).objs.length=T.objs.length+1:=by
   have:=hp.len
   unfold sa
   rw [ib,length_append,length_drop,length_cons,length_nil];omega
  refine hk en q y e ⟨_,i',_,hr,hat2,λj hj=> ?_,λj hj=> ?_⟩
  ·rw [uW (hp.atl h) (by rw [length_range];exact hj)];exact getElem?_range hj
  ·have hn:=h.fl.hn
   unfold bX at hj
   rcases mem_append.1 hj with hj | hj
   ·have:=mem_range.1 hj;omega
   ·obtain ⟨c,hc,rfl⟩:=mem_map.1 hj
    have hc:=mem_range.1 hc
    have:=hr.m1
    rw [length_range] at hc
    rw [hlen];omega
 ·exact h9.elim
theorem Mt (h:MdB i)(f:Fl)(now:Int)(hm:i.m≤100∨(dQ i f).isSome=true)(ha:∀f g,(i.O 0).ren f g=i.O 0)(hb:∀f g,(i.O 1).ren f g=i.O 1):VCx prog ae 0 Ar [.ptr 6 0,.ptr 8 0,.ptr 11 0,.agg (au f),.val (.int .i64 now),.val (.bool false)] i.Z λx T'=>∃i',L8 i f now x i'∧T'=i'.Z:=by
 refine tN (k:=101-i.m+0) (λx i' hr=>by rw [hr.x1];exact λ_ _=>rfl) ?_
 rw [wH h [] rfl]
 obtain ⟨y,hy⟩:=BW i.O i.rg i.lk i.es i.ck i.now i.came i.went i.x
 have hy':∀l,rT (i.O 0) (i.O 1) y l=i.T l:=hy
 have hn:=h.fl.hn
 have pre:∀l,PreZ i (rT (i.O 0) (i.O 1) y l):=λl=>⟨rfl,by rw [hy'];exact J2 i l⟩
 rw [←hy' []]
 obtain ⟨k,d,s,n,hv⟩:∃k d s n,fZ i f now false=(k,d,s,n):=⟨_,_,_,_,rfl⟩
 have hC:aQ prog ae (L5 (i.O 0) (i.O 1) f now k d s n (PreZ i) (λT=>PreZ i T∧(dQ i f).isSome=true) (L9 i f) (Mc i f) (Ma i)):=aE λp hp=>by
  simp only [mem_cons,not_mem_nil,or_false] at hp
  rcases hp with rfl | rfl | rfl | rfl
  ·exact gV λT hT=>by
    have:=JU h hT.2 f now false
    rw [hv] at this
    exact this
  ·exact Kd h ha hb
  ·exact Kf h hm ha hb
  ·exact Ke h ha hb
 have agree:∀(y':Nat→VO) (l l':List VO),∀j∈List.range (16+i.m),(rT (i.O 0) (i.O 1) y' l).objs[j]?=(rT (i.O 0) (i.O 1) y' l').objs[j]?:=λy' l l' j hj=>by
  have hj:=mem_range.1 hj
  rw [tK (mr _ _ y' l) (by omega),tK (mr _ _ y' l') (by omega)]
 refine ap ah ag hC ak (Lx (i.O 0) (i.O 1) y f now k d s n _ _ _ _ _ _) ?_
 refine ⟨⟨rfl,rfl,pre _⟩,aL (λh1=> ?_) λh1=>aL (λh2=> ?_) λh2=> ?_⟩
 ·have h1':=(Ms k d s n).symm.trans h1
  obtain ⟨rfl,rfl,rfl⟩:=of_decide_eq_true h1'
  have hbk:dQ i f=some d:=by
   have:=Mp (i:=i) (f:=f) (now:=now) (tun:=false) (by rw [hv])
   rw [hv] at this
   exact this
  refine ⟨⟨rfl,rfl,pre _,by rw [hbk];rfl⟩,λc q y' hw=> ?_⟩
  obtain ⟨x,i',hr,hat⟩:=hw
  exact ⟨i',List.range (16+i.m),⟨by rw [hv];rfl,hr.okB,hr.eS,hr.eO,by rw [hr.em];exact le_refl _,by rw [hr.em];exact le_succ _,λ_=>hr.em,λ_=>by rw [hv,hr.bk,hbk]⟩,hat.congr (agree y' _ _),λj hj=>getElem?_range hj⟩
 ·have h2':k=1:=by simpa using (JV .i64 k 1).symm.trans h2
  refine ⟨⟨rfl,rfl,rfl,pre _⟩,λen q y' e' hw=> ?_⟩
  obtain ⟨x,i',is,hr,hat,hlo,hpl⟩:=hw
  refine ⟨i',is,⟨by rw [hv];rfl,hr.ok,hr.eS,hr.eO,hr.m0,hr.m1,hr.mkn,λ_=>by rw [hv];exact hr.bk⟩,hat.congr λj hj=> ?_,hlo⟩
  rcases hpl j hj with h3 | h3
  ·exact (tK (mr _ _ y' _) h3).trans (tK (mr _ _ y' _) h3).symm
  ·have h4:j=121:=by
    have e:j+1=122:=h3.trans (ib _ _ y' _)
    omega
   subst h4
   rfl
 ·have h2':k≠1:=by simpa using (JV .i64 k 1).symm.trans h2
  refine ⟨⟨rfl,rfl,pre _⟩,λq y' hw=> ?_⟩
  obtain ⟨x,i',hr,hat⟩:=hw
  exact ⟨i',List.range (16+i.m),⟨by rw [hv];rfl,hr.okB,hr.eS,hr.eO,by rw [hr.em];exact le_refl _,by rw [hr.em];exact le_succ _,λ_=>hr.em,λhk=>absurd (by rw [hv] at hk;exact hk) h2'⟩,hat.congr (agree y' _ _),λj hj=>getElem?_range hj⟩
end
end
set_option maxRecDepth 100000
section
open Go.RowKit Go.Maps Go.Sort
section
variable {T:VT}{is:List Nat}{i i':MdI}{a b:VO}
theorem AtL.cut {L l:List VO}{tl:List (Nat × Nat × Bool)}(h:AtL ⟨L++l,tl⟩ is i)(hl:∀j∈is,j<L.length):AtL ⟨L,tl⟩ is i:=by
 have e:∀j∈is,(L++l)[j]?=L[j]?:=λj hj=>getElem?_append_left (hl j hj)
 refine ⟨h.nds,h.len,h.low,λj hj=> ?_,?_⟩
 ·obtain ⟨o,h1,h2⟩:=h.lives j hj
  exact ⟨o,(e j hj).symm.trans h1,h2⟩
 ·rw [←h.give]
  simp only [VT.give,map_nil]
  congr 1
  exact List.map_congr_left λj hj=>by rw [e j hj]
structure IvB (a b:VO) (T:VT) (is:List Nat) (i:MdI):Prop where
 okB:MdB i
 atl:AtL T is i
 tl0:T.tails= []
 cls:Cl 119 T
 plc:∀j∈is,j<117∨j=118
 o0:i.O 0=a
 o1:i.O 1=b
 ln:118≤T.objs.length
theorem HP {T2:VT}(ht:T2.tails= [])(hl:118≤T.objs.length)(hn:T2.objs.length=max T.objs.length 119)(h0:T2.objs[0]?=some a)(h1:T2.objs[1]?=some b)(hoff:∀j,117≤j→j≠118→T2.objs[j]?=T.objs[j]?):∃y e,T2=fg T a b y e:=by
 obtain ⟨y,hy⟩:=uZ ht (by omega) h0 h1
 refine ⟨y,T2.objs[118]?.getD .gone,hy.trans ?_⟩
 have h118:T2.objs[118]?=some (T2.objs[118]?.getD .gone):=by
  have e:T2.objs[118]?=some T2.objs[118]:=List.getElem?_eq_getElem (by omega)
  rw [e];rfl
 generalize T2.objs[118]?.getD .gone=e at h118
 have e2:∀k,(T2.objs.drop 117)[k]?=T2.objs[117+k]?:=λk=>getElem?_drop
 have e1:∀k,(T.objs.drop 117)[k]?=T.objs[117+k]?:=λk=>getElem?_drop
 have hd:=(length_drop:(T.objs.drop 117).length=T.objs.length-117)
 unfold fg
 congr 1
 generalize T.objs.drop 117=d at e1 hd
 match d,hd,e1 with
 |[],hd,_=>simp only [length_nil] at hd;omega
 |[z],hd,e1=>
  simp only [length_cons,length_nil] at hd
  apply ext_getElem?
  intro k
  rw [e2]
  match k with
  | 0=>rw [hoff _ (by omega) (by omega),←e1 0];rfl
  | 1=>exact h118
  |k+2=>rw [getElem?_eq_none (by omega)];rfl
 |z::e0::r,hd,e1=>
  apply ext_getElem?
  intro k
  rw [e2]
  match k with
  | 0=>rw [hoff _ (by omega) (by omega),←e1 0];rfl
  | 1=>exact h118
  |k+2=>rw [hoff _ (by omega) (by omega),←e1 (k+2)];rfl
theorem HQ {n len j:Nat}(h:j∈bX n is len):j∈is∨∃c,c<len-is.length∧j=n+c:=by
 unfold bX at h
 rcases mem_append.1 h with h | h
 ·exact .inl h
 ·obtain ⟨c,hc,rfl⟩:=mem_map.1 h
  exact .inr ⟨c,mem_range.1 hc,rfl⟩
theorem At (h:IvB a b T is i)(ha:∀f g,a.ren f g=a)(hb:∀f g,b.ren f g=b)(h2:MdB i')(hm:i.m≤i'.m)(hm1:i'.m≤i.m+1)(hm2:119≤T.objs.length→i'.m=i.m)(h0:i'.O 0=a)(h1:i'.O 1=b):
  ∃k y e is',(T.back is [] i'.Z).pad k=fg T a b y e∧IvB a b (fg T a b y e) is' i'∧119≤(fg T a b y e).objs.length:=by
 obtain ⟨b1,b2,b3⟩:=od h.atl hm
 have hA:=yY h.atl h2 hm
 have hln:=h.ln
 have hmem:∀j∈bX T.objs.length is (16+i'.m),j<117∨j=118:=λj hj=>by
  rcases HQ hj with hj | ⟨c,hc,rfl⟩
  ·exact h.plc j hj
  ·rw [h.atl.len] at hc
   rcases lt_or_ge T.objs.length 119 with h3 | h3
   ·omega
   ·have:=hm2 h3;omega
 have hC:=HI h.cls h.atl h2 hm (λj hj=>by have:=hmem j hj;omega)
 have l0:=jq h.atl hm (j:=0) (by decide) (o:=a) (by rw [←h0];rfl) ha
 have l1:=jq h.atl hm (j:=1) (by decide) (o:=b) (by rw [←h1];rfl) hb
 have hp:∀k j,j<(T.back is [] i'.Z).objs.length→((T.back is [] i'.Z).pad k).objs[j]?=(T.back is [] i'.Z).objs[j]?:=λk j hj=>getElem?_append_left hj
 have hpl:∀k,((T.back is [] i'.Z).pad k).objs.length=(T.back is [] i'.Z).objs.length+k:=λk=>by simp only [VT.pad,length_append,List.length_replicate]
 obtain ⟨k,hk⟩:∃k,k=119-(T.back is [] i'.Z).objs.length:=⟨_,rfl⟩
 have hn:((T.back is [] i'.Z).pad k).objs.length=max T.objs.length 119:=by
  rw [hpl,b1]
  rcases lt_or_ge T.objs.length 119 with h3 | h3
  ·omega
  ·have:=hm2 h3;omega
 obtain ⟨y,e,he⟩:=HP (T:=T) (T2:=(T.back is [] i'.Z).pad k) (a:=a) (b:=b) (b2.trans h.tl0) hln hn (by rw [hp _ _ (by omega)];exact l0) (by rw [hp _ _ (by omega)];exact l1) (λj hj1 hj2=>by
  rcases lt_or_ge j T.objs.length with h3 | h3
  ·rw [hp _ _ (by omega)]
   exact b3 j h3 λhin=>by have:=h.plc j hin;omega
  ·rw [getElem?_eq_none (by omega),getElem?_eq_none (by omega)])
 refine ⟨k,y,e,bX T.objs.length is (16+i'.m),he,?_,by rw [←he,hn];omega⟩
 rw [←he]
 refine ⟨h2,hA.app _,b2.trans h.tl0,λo ho=> ?_,hmem,h0,h1,by rw [hn];omega⟩
 rcases mem_append.1 ho with ho | ho
 ·exact hC o ho
 ·obtain ⟨_,rfl⟩:=List.mem_replicate.1 ho
  exact λ_ _ _=>rfl
theorem IvB.app (h:IvB a b T is i){l:List VO}(hl:∀o∈l,Shut 119 o):IvB a b ⟨T.objs++l,T.tails⟩ is i:=by
 refine ⟨h.okB,h.atl.app l,h.tl0,λo ho=> ?_,h.plc,h.o0,h.o1,?_⟩
 ·rcases mem_append.1 ho with ho | ho
  ·exact h.cls o ho
  ·exact hl o ho
 ·have:=h.ln
  simp only [length_append];omega
theorem IvB.cut {L l:List VO}(h:IvB a b ⟨L++l,[]⟩ is i)(hl:119≤L.length):IvB a b ⟨L,[]⟩ is i:=by
 refine ⟨h.okB,h.atl.cut λj hj=> ?_,rfl,λo ho=>h.cls o (List.mem_append_left _ ho),h.plc,h.o0,h.o1,?_⟩
 ·have:=h.plc j hj;omega
 ·show 118≤L.length
  omega
theorem HR {L l:List VO}{n:Nat}(h:Cl 119 ⟨L++l,[]⟩)(hl:L.length=n)(h9:119≤n):VT.keep ⟨L++l,[]⟩ n 0=⟨L,[]⟩:=by
 simp only [VT.keep,List.take_left' hl,List.take_nil]
 congr 1
 conv=>rhs;rw [←List.map_id L]
 exact List.map_congr_left λo ho=>h o (List.mem_append_left _ ho) _ _ λj hj=>fQ (by omega)
theorem D7 (a b:VO)(y:Nat→VO)(l l':List VO):rT a b y (l++l')=⟨(rT a b y l).objs++l',[]⟩:=by
 simp only [rT,List.cons_append,List.append_assoc]
def MC (f:Fl)(g:Nat × Int)(T:VT)(i:MdI):Prop:=match g.1 with
 | 0=>i.m≤100∧T.objs.length=118
 | 1=>dQ i f=some g.2∧(bq i.S g.2).2.1=true∧119≤T.objs.length
 |_=>dQ i f=some g.2∧(bq i.S g.2).2.1=false∧119≤T.objs.length
def Iv (a b:VO)(f:Fl)(g:Nat × Int)(T:VT):Prop:=∃is i,IvB a b T is i∧MC f g T i
def Kg (a b:VO)(f:Fl)(g:Nat × Int)(k d _:Int)(n:Bool)(T':VT):Prop:=match g.1 with
 | 0=>k=1→Iv a b f (1,d) T'
 | 1=>k=1∧d=g.2∧n=true∧Iv a b f g T'
 |_=>¬(k=1∧d=g.2)
def Kh (a b:VO)(f:Fl)(g z:Int)(q:Bool)(T:VT):Prop:=Iv a b f (1,g) T∧(z≠g∨q=false)
def Ki (a b:VO)(f:Fl)(g z:Int)(_:Bool)(T':VT):Prop:=(z≠g→Iv a b f (1,g) T')∧(z=g→Iv a b f (2,g) T')
def GN (a b:VO)(f:Fl)(g _:Int)(_:Bool)(T:VT):Prop:=Iv a b f (1,g) T
def wh (a b:VO)(f:Fl)(g:Int)(T:VT):Prop:=Iv a b f (1,g) T
variable {f:Fl}
theorem D8 (ha:∀f g,a.ren f g=a)(hb:∀f g,b.ren f g=b):∀ro ys T K,D5 a b f (Iv a b f) (Kg a b f) ro ys T K→VCx prog ae ro Ar ys T K:=by
 intro ro ys T K h
 unfold D5 at h
 split at h
 ·rename_i x now tun
  obtain ⟨g,⟨rfl,rfl,rfl,is,i,hI,hS⟩,hk⟩:=h
  obtain ⟨st,β⟩:=g
  have hcase:(st=0∧i.m≤100∧T.objs.length=118)∨(dQ i f=some β∧119≤T.objs.length):=by
   match st,hS with
   | 0,hS=>exact .inl ⟨rfl,hS⟩
   | 1,hS=>exact .inr ⟨hS.1,hS.2.2⟩
   |_+2,hS=>exact .inr ⟨hS.1,hS.2.2⟩
  have hb2:i.m≤100∨(dQ i f).isSome=true:=by
   rcases hcase with ⟨_,h,_⟩ | ⟨h,_⟩
   ·exact .inl h
   ·exact .inr (by rw [h];rfl)
  have nm:∀j,j<16→aj is j=some j:=λj hj=>hI.atl.name hj
  refine VCx.padQ ((pV hI.atl (R:=L8 i f now) (by simp only [av,TV.ren,nm 6 (by decide),nm 8 (by decide),nm 11 (by decide),au,bQ]) (λx i' hr=>⟨by rw [hr.x1];exact λ_ _=>rfl,hr.okB,hr.m0⟩) (Mt hI.okB f now hb2 (by rw [hI.o0];exact ha) (by rw [hI.o1];exact hb))).mono ?_)
  rintro r T' ⟨i',hr,rfl,hat⟩
  have hmk:119≤T.objs.length→i'.m=i.m:=λhl=>by
   rcases hcase with ⟨_,_,h⟩ | ⟨h,_⟩
   ·omega
   ·exact hr.mkn (by rw [h];rfl)
  obtain ⟨k,y,e,is',h1,h2,h3⟩:=At hI ha hb hr.okB hr.m0 hr.m1 hmk (by rw [hr.eO];exact hI.o0) (by rw [hr.eO];exact hI.o1)
  refine ⟨k,?_⟩
  rw [h1,hr.x1]
  refine hk (fZ i f now false).1 (fZ i f now false).2.1 (fZ i f now false).2.2.1 (fZ i f now false).2.2.2 y e ?_
  match st,hS with
  | 0,hS=>exact λhk1=>⟨is',i',h2,hr.bk hk1,by rw [hr.eS];exact GM hI.okB hk1,h3⟩
  | 1,hS=>
   have hw:=FC (now:=now) (tun:=false) hS.1 hS.2.1
   refine ⟨by rw [hw],by rw [hw],by rw [hw],is',i',h2,?_,by rw [hr.eS];exact hS.2.1,h3⟩
   have:=hr.bk (by rw [hw])
   rw [hw] at this
   exact this
  |_+2,hS=>
   rintro ⟨hk1,hd⟩
   have h9:=GM hI.okB (f:=f) (now:=now) hk1
   have hd':(fZ i f now false).2.1=β:=hd
   rw [hd',hS.2.1] at h9
   cases h9
 ·exact h.elim
theorem u4 (ha:∀f g,a.ren f g=a)(hb:∀f g,b.ren f g=b)(hI:IvB a b T is i)(h9:119≤T.objs.length){fn:FuncId}{xs ys:List TV}{z:Int}{g:Mb→Mb}(hy:av (aj [8,7]) (aj []) ys=xs)(hn:av (aj is) (aj []) ys=ys)(hv:∀n lk es ck S st,PoOk lk es ck S st→VCx prog ae 0 fn xs (pT n lk es ck) (vM n (iI S z g))){K:TV→VT→Prop}
  (hk:∀(c:Int) y e is' i',IvB a b (fg T a b y e) is' i'→119≤(fg T a b y e).objs.length→i'.S=iI i.S z g→(∀f,dQ i' f=dQ i f)→K (.val (.int .i64 c)) (fg T a b y e)):VCx prog ae 0 fn ys T K:=by
 refine VCx.padQ ((pV hI.atl (R:=L2 i z g) hn (λx i' hr=>⟨by obtain ⟨c,rfl⟩:=hr.x1;exact λ_ _=>rfl,hr.ok,by rw [hr.em];exact le_refl _⟩) (Mo hI.okB hy hv)).mono ?_)
 rintro r T' ⟨i',hr,rfl,hat⟩
 obtain ⟨c,rfl⟩:=hr.x1
 obtain ⟨k,y,e,is',h1,h2,h3⟩:=At hI ha hb hr.ok (by rw [hr.em];exact le_refl _) (by rw [hr.em];exact le_succ _) (λ_=>hr.em) (by rw [hr.e0];exact hI.o0) (by rw [hr.e1];exact hI.o1)
 refine ⟨k,?_⟩
 rw [h1]
 exact hk c y e is' i' h2 h3 hr.eS hr.bk
theorem D9 (ha:∀f g,a.ren f g=a)(hb:∀f g,b.ren f g=b):∀ro ys T K,wd a b (Kh a b f) (Ki a b f) ro ys T K→VCx prog ae ro tp ys T K:=by
 intro ro ys T K h
 unfold wd at h
 split at h
 ·rename_i z q
  obtain ⟨g,⟨rfl,⟨is,i,hI,hS⟩,hz⟩,hk⟩:=h
  refine u4 ha hb hI hS.2.2 (xs:= [.ptr 0 0,.val (.int .i64 z),.val (.bool q)]) rfl (by simp only [av,TV.ren,hI.atl.name (show 8<16 by decide)]) (λn lk es ck S st h=>C1 h q z) λc y e is' i' h2 h3 h4 h5=> ?_
  refine hk c y e ⟨λhne=>⟨is',i',h2,(h5 f).trans hS.1,?_,h3⟩,λhe=>⟨is',i',h2,(h5 f).trans hS.1,?_,h3⟩⟩
  ·rw [h4];exact (uX (g:=ra q) (λ_=>rfl) (.inl (Ne.symm hne))).trans hS.2.1
  ·subst he
   rcases hz with hz | rfl
   ·exact absurd rfl hz
   ·rw [h4];exact J0
 ·exact h.elim
theorem Kj (ha:∀f g,a.ren f g=a)(hb:∀f g,b.ren f g=b):∀ro ys T K,wd a b (GN a b f) (GN a b f) ro ys T K→VCx prog ae ro x9 ys T K:=by
 intro ro ys T K h
 unfold wd at h
 split at h
 ·rename_i z q
  obtain ⟨g,⟨rfl,is,i,hI,hS⟩,hk⟩:=h
  refine u4 ha hb hI hS.2.2 (xs:= [.ptr 0 0,.val (.int .i64 z),.val (.bool q)]) rfl (by simp only [av,TV.ren,hI.atl.name (show 8<16 by decide)]) (λn lk es ck S st h=>C2 h q z) λc y e is' i' h2 h3 h4 h5=> ?_
  refine hk c y e ⟨is',i',h2,(h5 f).trans hS.1,?_,h3⟩
  rw [h4];exact (uX (g:=FV q) (λ_=>rfl) (.inr λ_=>rfl)).trans hS.2.1
 ·exact h.elim
theorem Kk (ha:∀f g,a.ren f g=a)(hb:∀f g,b.ren f g=b):∀ro ys T K,GL a b (wh a b f) (wh a b f) ro ys T K→VCx prog ae ro CU ys T K:=by
 intro ro ys T K h
 unfold GL at h
 split at h
 ·rename_i z q
  obtain ⟨g,⟨rfl,is,i,hI,hS⟩,hk⟩:=h
  refine u4 ha hb hI hS.2.2 (xs:= [.ptr 0 0,.val (.int .i64 z),.val (.int .i64 q)]) rfl (by simp only [av,TV.ren,hI.atl.name (show 8<16 by decide)]) (λn lk es ck S st h=>ID h q z) λc y e is' i' h2 h3 h4 h5=> ?_
  refine hk c y e ⟨is',i',h2,(h5 f).trans hS.1,?_,h3⟩
  rw [h4];exact (uX (HK q) (.inr (J1 q))).trans hS.2.1
 ·exact h.elim
end
end
set_option maxRecDepth 100000
section
open Go.RowKit Go.Maps Go.Sort
section
variable {a b:VO}{f:Fl}{y:Nat→VO}
theorem HT:Shut 119 bO:=λf g hf=>by
 simp only [bO,VO.ren,av,TV.ren,hf 6 (by decide),hf 8 (by decide),hf 11 (by decide),hf 12 (by decide),hf 13 (by decide),hf 14 (by decide)]
theorem Mu {i:MdI}(h:MdB i){l:List VO}(hl:∀o∈l,Shut 119 o):Cl 119 (i.T l):=λo ho=>by
 have hm:=h.fl.hn
 have e1:(i.T l).objs=(cj i.O i.rg i.lk i.es i.ck i.now i.came i.went++aB i.x)++l:=by simp only [MdI.T,fy,List.append_assoc]
 rw [e1] at ho
 rcases mem_append.1 ho with ho | ho
 ·intro g h1 hf
  have e:=ni (ck:=i.ck) (now:=i.now) (came:=i.came) (went:=i.went) h.fl h.fix g h1 λj hj=>hf j (by omega)
  obtain ⟨p,hp⟩:=List.mem_iff_getElem?.1 ho
  have e2:=congrArg (λl=>l[p]?) e
  simp only [List.getElem?_map,hp,map_some] at e2
  injection e2
 ·exact hl o ho
theorem HU {i:MdI}(h:MdA (rT a b y []).objs i)(hm:i.m≤100)(h0:i.O 0=a)(h1:i.O 1=b)(k:Int):Iv a b f (0,k) (rT a b y [bO]):=by
 have hB:MdB i:=⟨rfl,h.fix,h.live,h.fl,h.n1,h.n2,h.po,h.si⟩
 have e:=Lw h.hA [bO]
 refine ⟨List.range (16+i.m),i,⟨hB,jr hB (by rw [mr];exact h.hA),rfl,?_,λj hj=>.inl (by have:=mem_range.1 hj;omega),h0,h1,?_⟩,hm,?_⟩
 ·rw [e]
  exact Mu hB λo ho=>by rw [mem_singleton.1 ho];exact HT
 ·rw [ib];exact le_refl _
 ·rw [ib];rfl
theorem Iv.app {st:Nat}{k:Int}{l l':List VO}(h:Iv a b f (st+1,k) (rT a b y l))(hl:∀o∈l',Shut 119 o):Iv a b f (st+1,k) (rT a b y (l++l')):=by
 obtain ⟨is,i,hI,hS⟩:=h
 rw [D7]
 have hlen:∀T:VT,119≤T.objs.length→119≤(T.objs++l').length:=λT h=>by rw [length_append];omega
 refine ⟨is,i,hI.app hl,?_⟩
 match st,hS with
 | 0,hS=>exact ⟨hS.1,hS.2.1,hlen _ hS.2.2⟩
 |_+1,hS=>exact ⟨hS.1,hS.2.1,hlen _ hS.2.2⟩
theorem Iv.cut {k:Int}{l l':List VO}(h:Iv a b f (1,k) (rT a b y (l++l')))(hl:2≤l.length):Iv a b f (1,k) (rT a b y l)∧VT.keep (rT a b y (l++l')) (117+l.length) 0=rT a b y l:=by
 obtain ⟨is,i,hI,hS⟩:=h
 rw [D7] at hI ⊢
 have h9:119≤(rT a b y l).objs.length:=by rw [ib];omega
 exact ⟨⟨is,i,hI.cut h9,hS.1,hS.2.1,h9⟩,HR hI.cls (ib _ _ _ _) (by omega)⟩
theorem Au (k d s:Int)(n:Bool):Shut 119 (.cells (dO k d s n)):=λ_ _ _=>rfl
end
def uC (u:Int):List TV:= [.val (.int .u8 u)]
def GO (a b:VO)(f:Fl)(g:Int)(L:Bs)(T:VT):Prop:=∃(y:Nat→VO) (e:VO) (k s:Int) (n:Bool) (us:List Int),T=rT a b y [bO,e,.cells (dO k g s n)]∧L=us.map uC∧us.length≤40∧Iv a b f (1,g) T
theorem Kl:∃inf:TypeInfo,prog.info? 5=some inf∧inf.size=1:=⟨(prog.info? 5).getD default,by kernel_rfl,by kernel_rfl⟩
theorem FD {x i:Operand}{l:List (Nat × TV)}{L:List (List TV)}{tok:Tok}{k:IntKind}{z:Int}{a:List TV}(hx:aq ae l x=.vec 1 L tok)(hz:aq ae l i=.val (.int k z))(h0:0≤z)(he:L[z.toNat]?=some a):aJ prog ae (.indexAddr 66 x i) l (.elt a):=by
 obtain ⟨inf,i1,i2⟩:=Kl
 exact n9 Tryz.underlying66 i1 i2 hx hz h0 he
section
variable {a:VO}{f:Fl}{g:Int}
theorem HV (ha:∀f g,a.ren f g=a)(L:Bs):∀T,GO a (.cells (au f)) f g L T→∀K:KX,(∀(y':Nat→VO) (e':VO),wh a (.cells (au f)) f g (fg T a (.cells (au f)) y' e')→K .normal (ay 117 we (kf L L.length)) (fg T a (.cells (au f)) y' e') [])→VWx prog ae none 0 (ax prog rq 0) (ay 117 we (kf L 0)) T [] K:=by
 rintro T ⟨y,e,k,s,n,us,rfl,rfl,hl,hI⟩ K hK
 have hb:∀f' g',VO.ren f' g' (.cells (au f))=.cells (au f):=λ_ _=>rfl
 have hlen:(us.map uC).length=us.length:=List.length_map _
 have hC:aQ prog ae (az [(Ar,D5 a (.cells (au f)) f (Iv a (.cells (au f)) f) (Kg a (.cells (au f)) f)),(tp,wd a (.cells (au f)) (Kh a (.cells (au f)) f) (Ki a (.cells (au f)) f)),(CU,GL a (.cells (au f)) (wh a (.cells (au f)) f) (wh a (.cells (au f)) f))]):=aE λp hp=>by
  simp only [mem_cons,not_mem_nil,or_false] at hp
  rcases hp with rfl | rfl | rfl
  ·exact D8 ha hb
  ·exact D9 ha hb
  ·exact Kk ha hb
 refine fv (ι:=Nat × (Nat→VO) × VO) (f:=rq) (id:=0) (by kernel_rfl) 117 we (λs=>us.length-s.1) (λs=>kf (us.map uC) s.1) (λq=>rT a (.cells (au f)) q.2.1 [bO,q.2.2,.cells (dO k g s n)]) (λq=>q.1≤us.length∧Iv a (.cells (au f)) f (1,g) (rT a (.cells (au f)) q.2.1 [bO,q.2.2,.cells (dO k g s n)])) 120 0 (λ_ _=>⟨by rw [ib];exact le_refl _,le_refl _⟩)
  (λe vs T=>e=.normal∧vs=kf (us.map uC) (us.map uC).length∧∃(y':Nat→VO) (e':VO),Iv a (.cells (au f)) f (1,g) (rT a (.cells (au f)) y' [bO,e',.cells (dO k g s n)])∧T=rT a (.cells (au f)) y' [bO,e',.cells (dO k g s n)]) (λq hq=> ?_) (0,y,e) ⟨Nat.zero_le _,hI⟩ K (λe vs T hq=> ?_)
 ·obtain ⟨j,y,e⟩:=q
  obtain ⟨hj,hI⟩:=hq
  simp only at hj hI
  have ren:∀j',av (ai 120) (ai 0) (kf (us.map uC) j')=kf (us.map uC) j':=λj'=>by
   simp only [kf,av,TV.ren,ez uC (λ_ _ _=>rfl),Tok.ren,fQ (show 1<120 by decide),fQ (show 117<120 by decide),fQ (show 119<120 by decide)]
  by_cases hlt:j<us.length
  ·obtain ⟨u,hu⟩:∃u,us[j]?=some u:=⟨_,List.getElem?_eq_getElem hlt⟩
   have hwr:=fV j (by omega)
   have hu':(us.map uC)[j]?=some (uC u):=by rw [List.getElem?_map,hu];rfl
   have fin:∀(y':Nat→VO) (e':VO) (k2 d2 s2:Int) (n2:Bool),Iv a (.cells (au f)) f (1,g) (rT a (.cells (au f)) y' [bO,e',.cells (dO k g s n)])→qt 117 0 (λs:Nat × (Nat→VO) × VO=>us.length-s.1) (λs=>kf (us.map uC) s.1) (λq=>rT a (.cells (au f)) q.2.1 [bO,q.2.2,.cells (dO k g s n)]) (λq=>q.1≤us.length∧Iv a (.cells (au f)) f (1,g) (rT a (.cells (au f)) q.2.1 [bO,q.2.2,.cells (dO k g s n)])) 120 0 (j,y,e) (λe vs T=>e=.normal∧vs=kf (us.map uC) (us.map uC).length∧∃(y':Nat→VO) (e':VO),Iv a (.cells (au f)) f (1,g) (rT a (.cells (au f)) y' [bO,e',.cells (dO k g s n)])∧T=rT a (.cells (au f)) y' [bO,e',.cells (dO k g s n)]) .normal (kf (us.map uC) (wrap i64 ((j:Int)+1))) (rT a (.cells (au f)) y' [bO,e',.cells (dO k g s n),.cells (dO k2 d2 s2 n2)]) [] 117:=λy' e' k2 d2 s2 n2 hI'=>by
    have h1:=Iv.app (l':= [.cells (dO k2 d2 s2 n2)]) hI' λo ho=>by rw [mem_singleton.1 ho];exact Au _ _ _ _
    have h2:=(Iv.cut h1 (by show 2≤3;decide)).2
    refine ⟨rfl,rfl,(j+1,y',e'),⟨hlt,hI'⟩,by simp only;omega,.inr ⟨h2,?_⟩⟩
    rw [hwr]
    exact ren _
   refine cn ah ag hC ak (D6 a f y e k g s n u (us.map uC) j _ _ _ _ _ _ _) ?_
   refine aZ (decide_eq_true (by rw [hlen];omega)) ⟨FD rfl rfl (Int.natCast_nonneg _) (by rw [Int.toNat_natCast];exact hu'),g,⟨rfl,hI⟩,λc y1 e1 h1=>aL (λhne=> ?_) (λ_=> ?_)⟩
   ·have hne':(j:Int)≠g:=by simpa using (pS .i64 j g).symm.trans hne
    refine ⟨g,⟨rfl,h1,.inl hne'⟩,λc2 y2 e2 h2=>⟨(1,g),⟨rfl,rfl,rfl,h2.1 hne'⟩,λk2 d2 s2 n2 y3 e3 hw=> ?_⟩⟩
    obtain ⟨rfl,rfl,rfl,hI3⟩:k2=1∧d2=g∧n2=true∧_:=hw
    exact aA ((pS _ _ _).trans (by simp)) (aA ((pS _ _ _).trans (by simp)) (aA rfl (fin _ _ _ _ _ _ hI3)))
   ·refine ⟨(1,g),⟨rfl,rfl,rfl,h1⟩,λk2 d2 s2 n2 y3 e3 hw=> ?_⟩
    obtain ⟨rfl,rfl,rfl,hI3⟩:k2=1∧d2=g∧n2=true∧_:=hw
    exact aA ((pS _ _ _).trans (by simp)) (aA ((pS _ _ _).trans (by simp)) (aA rfl (fin _ _ _ _ _ _ hI3)))
  ·obtain rfl:j=us.length:=by omega
   refine cn ah ag hC ak (D6 a f y e k g s n 0 (us.map uC) us.length _ _ _ _ _ _ _) ?_
   exact aA (decide_eq_false (by rw [hlen];omega)) ⟨rfl,rfl,rfl,(show kf (us.map uC) (us.length:Int)=kf (us.map uC) ((us.map uC).length:Int) by rw [hlen]),y,e,hI,rfl⟩
 ·obtain ⟨rfl,rfl,y',e',hI',rfl⟩:=hq
  exact hK y' e' hI'
theorem Km (ha:∀f g,a.ren f g=a):ek prog ae (L7 a (.cells (au f)) (GO a (.cells (au f)) f) (wh a (.cells (au f)) f) (ax prog rq 0)):=cq λp hp=>by
 obtain rfl:=mem_singleton.1 hp
 intro rd ro σ T D K h
 have h':J5 a (.cells (au f)) (GO a (.cells (au f)) f) (wh a (.cells (au f)) f) rd ro σ T D K:=h
 clear h
 unfold J5 at h'
 split at h'
 ·rename_i p4 p7 p8 L l j he
  obtain ⟨g,⟨h1,h2,h3,h4,rfl,rfl,rfl,rfl,rfl,hT⟩,hK⟩:=h'
  exact n8 (vs0:=kf L 0) (Pre:=GO a (.cells (au f)) f g L) (R:=λT K=>∀(y':Nat→VO) (e':VO),wh a (.cells (au f)) f g (fg T a (.cells (au f)) y' e')→K .normal (ay 117 we (kf L L.length)) (fg T a (.cells (au f)) y' e') []) (HV ha L) rd ro σ T D K ⟨⟨h1,h2,h3,h4,he,hT⟩,hK⟩
 ·exact h'.elim
end
theorem Kn {w:Wd}(hwf:WdF w)(f:Fl)(us:List Int):VCx prog ae 0 rq [.agg w.cells,.agg (au f),.vec 1 (us.map uC) .none] ⟨[],[]⟩ fc:=by
 have hlen:(us.map uC).length=us.length:=List.length_map _
 by_cases hl:oz w=true∧us.length≤40
 ·obtain ⟨hl,hu⟩:=hl
  have hw:=hwf.ok hl
  have ha:∀g h,VO.ren g h (.cells w.cells)=.cells w.cells:=yT hw
  have hb:∀g h,VO.ren g h (.cells (au f))=.cells (au f):=λ_ _=>rfl
  have hC:aQ prog ae (L6 (.cells w.cells) (.cells (au f)) (oz w) w f (λy=>∃i,MdA (rT (.cells w.cells) (.cells (au f)) y []).objs i∧i.m≤100∧i.O 0=.cells w.cells∧i.O 1=.cells (au f)) (Iv (.cells w.cells) (.cells (au f)) f) (Kg (.cells w.cells) (.cells (au f)) f) (Kh (.cells w.cells) (.cells (au f)) f) (Ki (.cells w.cells) (.cells (au f)) f) (GN (.cells w.cells) (.cells (au f)) f) (GN (.cells w.cells) (.cells (au f)) f)):=aE λp hp=>by
   simp only [mem_cons,not_mem_nil,or_false] at hp
   rcases hp with rfl | rfl | rfl | rfl | rfl | rfl
   ·exact xG bg Aq
   ·exact GF hwf
   ·exact JW hw _ hb rfl λy i h1 h2 h3 h4=>⟨i,h1,h2,h3,h4⟩
   ·exact D8 ha hb
   ·exact D9 ha hb
   ·exact Kj ha hb
  refine ap ah ag hC (Km ha) (Ly (oz w) w f (us.map uC) _ _ _ _ _ _ _ _ _ fc) ?_
  refine ⟨rfl,aA (by rw [hl];rfl) (aA (decide_eq_false (by rw [hlen];omega)) ⟨⟨rfl,rfl,rfl⟩,λy hy=> ?_⟩)⟩
  obtain ⟨i,h1,h2,h3,h4⟩:=hy
  refine ⟨(0,0),⟨rfl,rfl,rfl,HU h1 h2 h3 h4 0⟩,λk d s n y1 e1 hw1=>aL (λ_=>trivial) λhk=> ?_⟩
  have hk':k=1:=by simpa using (pS .i64 k 1).symm.trans hk
  have i1:Iv (.cells w.cells) (.cells (au f)) f (1,d) (rT (.cells w.cells) (.cells (au f)) y1 [bO,e1]):=hw1 hk'
  have i2:=Iv.app (l':= [.cells (dO k d s n)]) i1 λo ho=>by rw [mem_singleton.1 ho];exact Au _ _ _ _
  refine ⟨d,⟨rfl,i2⟩,λc y2 e2 h2=>⟨rfl,d,⟨rfl,rfl,rfl,rfl,rfl,rfl,rfl,rfl,rfl,y2,e2,k,s,n,us,rfl,rfl,hu,h2⟩,λy3 e3 h3=>⟨d,⟨rfl,h3,.inr rfl⟩,λc2 y4 e4 h4=>⟨(2,d),⟨rfl,rfl,rfl,h4.2 rfl⟩,λk5 d5 s5 n5 y5 e5 h5=>aL (λ_=>trivial) λhk5=>aL (λ_=>trivial) λhd5=> ?_⟩⟩⟩⟩
  have h5':¬(k5=1∧d5=d):=h5
  exact absurd ⟨by simpa using (pS .i64 k5 1).symm.trans hk5,by simpa using (pS .i64 d5 d).symm.trans hd5⟩ h5'
 ·have hC:aQ prog ae (L0 (oz w) w):=aE λp hp=>by
   simp only [mem_cons,not_mem_nil,or_false] at hp
   rcases hp with rfl | rfl | rfl
   ·exact xG bg Aq
   ·exact GF hwf
   ·exact λ_ _ _ _ h=>h.elim
  refine ap ah ag hC ak (J9 (oz w) w f (us.map uC) fc) ?_
  refine ⟨rfl,aL (λ_=>trivial) λh1=>aL (λ_=>trivial) λh2=> ?_⟩
  have h2':=of_decide_eq_false h2
  rw [hlen] at h2'
  exact absurd ⟨by simpa using h1,by omega⟩ hl
end
set_option maxRecDepth 100000
section
open Go.ChangeShapes Go.WideShapes Go.ChangeAt Go.RowKit Go.Joins Go.Deep
theorem HW {H:Type}{enc:TypeId × Value→H}{w:World}{b0 base:Nat}{held:Bool}{v:Value}{d:DataW H}{p:List MemPlace}
  (hv:okWide prog w .any b0 31 v) (h:Trod enc prog w base (λ_=>true) held 31 v d p):∃f:Fl,VR (io w) w (.agg (au f)) v:=by
 obtain ⟨xs,h1,h2⟩:=pi (n:=9) (ss:=FA) (by kernel_rfl) Tryz.underlying31 hv h
 obtain ⟨f,rfl⟩:=DY h2
 exact ⟨f,h1⟩
theorem Lz {e:List TV}(h:cX [.int .u8] e):∃z:Int,e= [.val (.int .u8 z)]:=by
 obtain ⟨x,r,rfl,h1,h2⟩:=bC h
 obtain rfl:=iF h2
 obtain ⟨z,rfl,_⟩:=dY h1
 exact ⟨z,rfl⟩
theorem HY {H:Type}{enc:TypeId × Value→H}{w:World}{b0 base:Nat}{held:Bool}{v:Value}{d:DataW H}{p:List MemPlace}
  (hv:okWide prog w .any b0 66 v) (h:Trod enc prog w base (λ_=>true) held 66 v d p):∃us:List Int,VR (io w) w (.vec 1 (us.map λu=> [.val (.int .u8 u)]) .none) v:=by
 obtain ⟨x,h1,h2⟩:=Bi (m:=9) (sh:=.slice [.int .u8]) (by kernel_rfl) hv h
 obtain ⟨l,rfl⟩:=gD (c:=λu:Int=> [TV.val (.int .u8 u)]) (λe he=>Lz he) h2
 exact ⟨l,h1⟩
theorem H0 (m:Wd)(hm:WdF m)(f:Fl)(us:List Int)(v u t:Value)(w:World)(hv:VR (io w) w (.agg m.cells) v)(hu:VR (io w) w (.agg (au f)) u)(ht:VR (io w) w (.vec 1 (us.map λu=> [.val (.int .u8 u)]) .none) t):
  Calls prog 4 #[v,u,t] w λe w'=>e=.returned (.bool true)∧Gr w w':=
 VCx.top (us:= [v,u,t]) (Kn hm f us) w (VRs.cons hv (VRs.cons hu (VRs.cons ht (VRs.nil _ _))))
end
section
open Go.ChangeShapes Go.WideShapes Go.ChangeAt Go.RowKit Go.Joins
theorem FE:ownKnob prog.godebug=none:=by kernel_rfl
theorem pW:laidOutB prog=true:=by kernel_rfl
end
section
open Go.ChangeShapes Go.WideShapes Go.ChangeAt Go.RowKit Go.Joins Go.Deep
theorem oe (os:Os)(started:os.Started)(H:Type)(enc:TypeId × Value→H):
  ReturnsInHanded {} checked os 4 .any (λw args=>(Rows.balanceSticksSpec.pre enc prog Tryz.f4 [] false w args∧laidMetH prog Rows.balanceSticksRow.laid w)∧sizedMet enc prog Tryz.f4 (ofChange Rows.balanceSticksSpec) false w args)
   (Rows.balanceSticksSpec.post enc prog Tryz.f4 false true false false):=by
 refine returnsInHanded_of_change_and (C:=checked) (X:=λw _=>laidMetH prog Rows.balanceSticksRow.laid w) (λ_ _ _ hh h=>h.of_heap hh) FE started (by kernel_rfl) func4
  (ChangeSpec.witness_shaped (enc:=enc) (C:=checked) (os:=os) (X:=λw _=>laidMetH prog Rows.balanceSticksRow.laid w) false (World.laidAll prog os Rows.balanceSticksRow.laid) #[.agg #[.int .i64 0,.slice none 0 0,.slice none 0 0,.slice none 0 0,.slice none 0 0,.slice none 0 0,.slice none 0 0,.slice none 0 0],.agg #[.int .i64 0,.int .u32 0,.int .u32 0,.int .i64 0,.int .i64 0],.slice none 0 0] 8 (World.laidAll_os _ _ _)
   (World.shaped_of_ZipB (by kernel_rfl) (by kernel_rfl)) (by kernel_rfl) (by kernel_rfl) (by kernel_rfl)
   (by rw [MakeChecks.laidMetH_plain _ _ _ (by kernel_rfl)];exact laidMet_laidAll _ (by kernel_rfl) (by kernel_rfl))) ?_
 intro W base args ds gs before hval0 hW _ _ hL _
 have hval:∀(j:Nat) t v,Tryz.f4.params[j]?=some t→args[j]?=some v→okWide prog W .any base t v:=hval0
 have hW':=hW
 obtain ⟨p,q,hA0,hV,rfl,hfz,hnd⟩:=hW
 have hA:DataW.TrodAll enc prog W 0 (λ_=>true) true Tryz.f4.params.toList args.toList ds p:=hA0
 rw [params4] at hA hval
 obtain ⟨v0,vs0,d0,ds0,p0,q0,hargs,rfl,rfl,h0,r0⟩:=trodAll_cons hA
 obtain ⟨v1,vs1,d1,ds1,p1,q1,rfl,rfl,rfl,h1,r1⟩:=trodAll_cons r0
 obtain ⟨v2,vs2,d2,ds2,p2,q2,rfl,rfl,rfl,h2,r2⟩:=trodAll_cons r1
 obtain ⟨rfl,rfl,rfl⟩:=trodAll_nil r2
 obtain rfl:args= #[v0,v1,v2]:=by cases args;simp_all
 obtain ⟨rfl,rfl⟩:=trodVars_none hV
 have lt0:∀x∈p0,x.block<W.heap.size:=by obtain ⟨m,hm⟩:=h0;exact trod_lt m _ _ _ hm
 have lt1:∀x∈p1,x.block<W.heap.size:=by obtain ⟨m,hm⟩:=h1;exact trod_lt m _ _ _ hm
 have lt2:∀x∈p2,x.block<W.heap.size:=by obtain ⟨m,hm⟩:=h2;exact trod_lt m _ _ _ hm
 obtain ⟨x0,x0v,x0f⟩:=HH (hval 0 28 v0 rfl rfl) h0
 obtain ⟨x1,x1v⟩:=HW (hval 1 31 v1 rfl rfl) h1
 obtain ⟨x2,x2v⟩:=HY (hval 2 66 v2 rfl rfl) h2
 clear hA0 hval0
 refine (H0 x0 x0f x1 x2 v0 v1 v2 W x0v x1v x2v).mono λe W' ⟨he,bel⟩=> ?_
 subst he
 exact ⟨_,rfl,_,_,_,[],_,[],hW',trodAll_mk1 (shut_bool Tryz.underlying4 _),(trodAll_cons_mk (Below.trod pW (by kernel_rfl) (of_decide_eq_true (by kernel_rfl)) h0 bel lt0) (trodAll_cons_mk (Below.trod pW (by kernel_rfl) (of_decide_eq_true (by kernel_rfl)) h1 bel lt1) (trodAll_cons_mk (Below.trod pW (by kernel_rfl) (of_decide_eq_true (by kernel_rfl)) h2 bel lt2) trodAll_mk0))),rfl,Below.frame bel _,λh=>by cases h⟩
end
section
open Go
theorem fG:pinned.checked=checked:=rfl
theorem gF:checked.prog=prog:=rfl
theorem qE {H:Type}(enc:TypeId × Value→H)(P:Program)(fn:Func):
 Rows.balanceSticksRow.pre enc P fn (ofChange Rows.balanceSticksSpec)=λw args=>(Rows.balanceSticksSpec.pre enc P fn [] false w args∧laidMetH P Rows.balanceSticksRow.laid w)∧sizedMet enc P fn (ofChange Rows.balanceSticksSpec) false w args:=rfl
set_option maxHeartbeats 10000000 in
theorem og:joinedFacts prog 4 Tryz.f4 Rows.balanceSticksSpec Rows.balanceSticksRow=true:=by
 unfold joinedFacts
 repeat' rw [and_eq_true]
 repeat' apply And.intro
 all_goals (as_aux_lemma=>kernel_rfl)
theorem oB:joinedFacts pinned.checked.prog 4 Tryz.f4 Rows.balanceSticksSpec Rows.balanceSticksRow=true:=by
 rw [fG,gF];exact og
theorem pX:Tryz.f4.isInstance pinned.checked.prog Rows.balanceSticksRow.origin Rows.balanceSticksRow.targs:=(of_decide_eq_true (by kernel_rfl))
theorem pY:Tryz.f4.isWrapper pinned.checked.prog Rows.balanceSticksRow.wrapper Rows.balanceSticksRow.mainSum:=by unfold Func.isWrapper;first | (rw [if_pos (by decide+kernel)];kernel_rfl) | (rw [if_neg (by decide+kernel)];exact ⟨rfl,rfl⟩)
theorem jX:pinned.checked.prog.funcNamed Rows.balanceSticksRow.func=some 4:=by kernel_rfl
theorem lJ:pinned.checked.prog.funcs[(4:Nat)]?=some Tryz.f4:=by
 rw [fG,gF];exact func4
theorem pZ (os:Os)(started:os.Started)(H:Type)(enc:TypeId × Value→H):
  ReturnsInHanded Rows.balanceSticksRow.assume pinned.checked os 4 .any (Rows.balanceSticksRow.pre enc pinned.checked.prog Tryz.f4 (ofChange Rows.balanceSticksSpec))
   (Rows.balanceSticksSpec.post enc pinned.checked.prog Tryz.f4 Rows.balanceSticksRow.apart Rows.balanceSticksRow.fresh Rows.balanceSticksRow.handsOn Rows.balanceSticksRow.again):=by
 rw [qE,fG,gF]
 exact oe os started H enc
theorem balanceSticks_holds:Rows.BalanceSticksSaid:=
 OpenClaim.holds_of_wide 4 Tryz.f4 rfl rfl rfl rfl rfl rfl rfl ⟨rfl,rfl,rfl,rfl,rfl⟩ rfl rfl rfl rfl rfl jX lJ oB pX pY
  (λos started H enc _=>pZ os started H enc)
theorem sg:Rows.balanceSticksRow.wfByText (ofChange Rows.balanceSticksSpec)=true:=by kernel_rfl
theorem p9:pinned.checked.prog.mainIs=some (true,("c7b105b1b4cc57d57e1f0b07528c3384149b7738f567cb76d0a9543672c9a822" :String).toList):=by kernel_rfl
theorem qb:false=Rows.balanceSticksRow.goesBy pinned.checked.prog:=by kernel_rfl
theorem oC:false=pinned.checked.prog.looks []:=by kernel_rfl
theorem oD:([28,31,66].all λu=> !Tryz.pinned.checked.prog.wantsStandIn u)=true:=by kernel_rfl
theorem sj:Tryz.f4.params= #[28,31,66]:=params4
theorem balanceSticksCard_holds:Rows.BalanceSticksCardSaid:=
 Claim7.holds_tied_plain_at .later [] [.data,.data,.data] true (true, "c7b105b1b4cc57d57e1f0b07528c3384149b7738f567cb76d0a9543672c9a822") false
  balanceSticks_holds (λ_ h=>by cases h) sg (λ_ h=>by cases h) balanceSticks_row_tie rfl ⟨rfl,rfl⟩ p9 rfl
  (λf fn hf hfn=>by
   obtain rfl:f=4:=Option.some.inj (hf.symm.trans jX)
   obtain rfl:fn=Tryz.f4:=Option.some.inj (hfn.symm.trans lJ)
   refine ⟨oC,λj t ht=> ?_⟩
   rw [sj] at ht
   have hm:t∈ [28,31,66]:=by simpa using Array.mem_of_getElem? ht
   have:=List.all_eq_true.1 oD t hm
   simpa using this)
  qb
#print axioms balanceSticksCard_holds
end
end Go.Proofs.YtgboehkdijjnkaaGreatDoor