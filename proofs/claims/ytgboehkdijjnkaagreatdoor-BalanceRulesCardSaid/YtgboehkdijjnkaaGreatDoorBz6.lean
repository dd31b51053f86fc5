/-Part 6 of the proof of balanceRulesCard_holds:BpH,Vob,Voc ... No condition. -/
import Derived.Test.YtgboehkdijjnkaaGreatDoorBz1
import Derived.Test.YtgboehkdijjnkaaGreatDoorBz2
import Derived.Test.YtgboehkdijjnkaaGreatDoorBz3
import Derived.Test.YtgboehkdijjnkaaGreatDoorBz4
import Derived.Test.YtgboehkdijjnkaaGreatDoorBz5
set_option maxRecDepth 100000
namespace Go.Proofs.YtgboehkdijjnkaaGreatDoor
open Go.RowKit
open _root_.Array (toList)
open Go.BinOp (eql)
open Go.Calls (mono)
open _root_.Function (comp)
open _root_.Int (natCast_nonneg toNat_natCast)
open Go.IntKind (i64 u32 wrap)
open _root_.List (append_assoc cons_append drop ext_getElem? flatten flatten_cons getElem?_append_left getElem?_append_right getElem?_eq_getElem getElem?_eq_none getElem?_map getElem?_set head?_drop length length_append length_cons length_drop length_map length_nil length_replicate length_take map_append map_cons map_map map_nil mem_append mem_cons mem_cons_of_mem mem_cons_self mem_map mem_singleton nil_append not_mem_nil pairwise_cons takeWhile_cons take_left' take_one take_succ_cons take_zero toArray)
open _root_.Nat (le_refl lt_or_ge not_lt_zero zero_add zero_le)
open _root_.Option (getD_some isSome_none isSome_some map_some)
open _root_.Prod (fst snd)
open Go.Proofs.Tryz (prog underlying127 underlying130)
abbrev Bs:=List (List TV)
abbrev lh:=63
abbrev xE:=64
abbrev xF:=65
abbrev CB:=29
abbrev CC:=30
abbrev pu:=28
abbrev qP:=74
abbrev Fo:=75
abbrev xG:=36
def jL (n:Int)(L:Bs):VO:=.cells [.val (.int .i64 n),.vec 5 L .none]
def b8 (n:Int)(L:Bs)(l:List VO):VT:=⟨jL n L::l,[]⟩
def zi:List Nat:= [1,4,10,11,12]
def u9 (L:Bs)(i r j:Int):List TV:= [.val (.int .i64 i),.val (.int .i64 r),.vec 5 L .none,.val (.int .i64 L.length),.val (.int .i64 j)]
def KR (n:Int)(L:Bs)(i r:Int)(hit:Bool)(c0:Code):Nat→Option (bH × Code):=di [(0,gX 24 zi [] (u9 L i 0 0) (b8 n L []) λK=>bif hit then (∀cs,K .ret (ax 24 zi (u9 L i r r)) (b8 n L [.cells cs]) []) else K .normal (ax 24 zi (u9 L i 0 L.length)) (b8 n L []) [],c0)]
def xH (n:Int)(L:Bs)(i r:Int):aZ:=λro ys T K=>(ro=0∧ys= [.ptr 0 0,.val (.int .i64 i)]∧T.objs[0]?=some (jL n L))∧K (.val (.int .i64 r)) T
def CD (n:Int)(L:Bs)(i:Int)(mb:List TV):aZ:=λro ys T K=>(ro=0∧ys= [.ptr 0 0,.val (.int .i64 i)]∧T.objs[0]?=some (jL n L))∧K (.agg mb) T
def CE (n:Int)(L:Bs)(i w:Int)(u d:Bool)(Is:Bs→Prop):aZ:=λro ys T K=>(ro=0∧ys= [.ptr 0 0,.val (.int .i64 i),.val (.bool u),.val (.bool d),.val (.int .i64 w)]∧T.objs[0]?=some (jL n L))∧∀(e:Int) (L':Bs),Is L'→K (.val (.int .i64 e)) {T with objs:=T.objs.set 0 (jL n L')}
def CF:List Nat:= [0,3,5]
def zj (j:Int):List TV:= [.ptr 0 0,.ptr 1 0,.val (.int .i64 j)]
def KT (n:Int)(L:Bs)(i a c k:Int)(c0:Code):Nat→Option (bH × Code):=di [(1,gX 88 CF [] (zj 0) (b8 n L [.cells (eV i a c)]) λK=>K .normal (ax 88 CF (zj k)) (b8 n L [.cells (eV i a c)]) [],c0)]
def xI (s:Nat)(T:VT)(n:Nat):VT:={T with tails:= [(n,s,false)]}
def iU (fl:List TV)(b l:Int):List TV:=fl++ [.val (.int .i64 b),.val (.int .i64 l)]
def uO (w:Int)(L:Bs)(c g:Int):VO:=.cells [.val (.int .i64 20),.val (.int .i64 100),.val (.int .i64 w),.vec 7 L .none,.val (.int .i64 c),.val (.int .i64 g)]
def zk:List Nat:= [3,4,10,11,12]
def va (L:Bs)(r j:Int):List TV:= [.ptr 1 0,.val (.int .i64 r),.vec 7 L .none,.val (.int .i64 L.length),.val (.int .i64 j)]
def KU (w c g:Int)(L:Bs)(fl:List TV)(r:Int)(hit:Bool)(c0:Code):Nat→Option (bH × Code):=di [(0,gX 23 zk [] (va L 0 0) ⟨[uO w L c g,.cells fl],[]⟩ λK=>bif hit then (∀cs,K .ret (ax 23 zk (va L r r)) ⟨[uO w L c g,.cells fl,.cells cs],[]⟩ []) else K .normal (ax 23 zk (va L 0 L.length)) ⟨[uO w L c g,.cells fl],[]⟩ [],c0)]
def Fp (L:Bs)(fl:List TV)(r:Int):aZ:=λro ys T K=>match ys,T.objs[0]? with
 |[.ptr 0 0,.agg fl'],some (VO.cells [.val (.int .i64 20),.val (.int .i64 100),.val (.int .i64 _),.vec 7 L' .none,.val (.int .i64 _),.val (.int .i64 _)])=>(ro=0∧fl'=fl∧L'=L)∧K (.val (.int .i64 r)) T
 |_,_=>aG 87 default ys
def Fq (L:Bs)(L1:Int→Bs)(ok:Int→Prop):aZ:=λro ys T K=>match ys,T.objs[0]? with
 |[.ptr 0 0,.val (.int .i64 i)],some (VO.cells [.val (.int .i64 20),.val (.int .i64 100),.val (.int .i64 w),.vec 7 L' .none,.val (.int .i64 c),.val (.int .i64 g)])=>(ro=0∧L'=L∧ok i)∧K (.tup []) {T with objs:=T.objs.set 0 (uO w (L1 i) c g)}
 |_,_=>aG 86 default ys
theorem J5 (n:Int)(L:Bs)(i r:Int)(hit:Bool)(Q:TV→VT→Prop):aK prog ae c9 bv 300 (KR n L i r hit (av prog lh 0)) 0 lh [.ptr 0 0,.val (.int .i64 i)] (b8 n L []) Q=
 ((av prog lh (0:Nat)=av prog lh (0:Nat))∧
 (((@Eq (Option Nat) .none .none)∧
 ((@Eq (Nat) 0 0)∧
 ((@Eq (List Nat) [] [])∧
 (True  ∧
 ((@Eq (VT) ⟨[(.cells [(.val (.int .i64 (n))),(.vec 5 (L) .none)])],[]⟩ ⟨[(.cells [(.val (.int .i64 (n))),(.vec 5 (L) .none)])],[]⟩)∧
 ((@Eq (Bool) true true)∧
 (@Eq (List TV) [(.val (.int .i64 (i))),(.val (.int .i64 0)),(.vec 5 (L) .none),(.val (.int .i64 ((↑(length L):Int)))),(.val (.int .i64 0))] [(.val (.int .i64 (i))),(.val (.int .i64 0)),(.vec 5 (L) .none),(.val (.int .i64 ((↑(length L):Int)))),(.val (.int .i64 0))])))))))∧
 (bif hit
 then (∀cs:List TV,Q (.val (.int .i64 (r))) ⟨[(.cells [(.val (.int .i64 (n))),(.vec 5 (L) .none)]),(.cells (cs))],[]⟩)
 else Q (.val (.int .i64 (-1))) ⟨[(.cells [(.val (.int .i64 (n))),(.vec 5 (L) .none)])],[]⟩))):=by kernel_rfl
theorem CG (n:Int)(L:Bs)(i r i' a c:Int)(u d:Bool)(j:Nat)(Q:Exit→List TV→VT→List Nat→Nat→Prop):vx prog ae c9 (bw [(999998,.dead,none),(15,.elt (ei i' a c u d),none)]) 300 bq none 0 (dh prog lh 0) (ax 24 zi (u9 L i r j)) (b8 n L []) [] (dl zi Q)=
 (bif decide ((↑j:Int)<(↑(length L):Int))
 then (aI prog (λ_=>.none) (.indexAddr 130 (.tmp 10) (.tmp 12)) [(10,(.vec 5 (L) .none)),(12,(.val (.int .i64 ((↑j:Int)))))] (.elt [(.val (.int .i64 (i'))),(.val (.int .u32 (a))),(.val (.int .i64 (c))),(.val (.bool (u))),(.val (.bool (d)))])∧
 (bif bE eql (aj (Value.int i64 i') (Value.int i64 i))
 then Q .ret [(.val (.int .i64 (i))),(.val (.int .i64 ((↑j:Int)))),(.vec 5 (L) .none),(.val (.int .i64 ((↑(length L):Int)))),(.val (.int .i64 ((↑j:Int))))] ⟨[(.cells [(.val (.int .i64 (n))),(.vec 5 (L) .none)]),(.cells [(.val (.int .i64 (i'))),(.val (.int .u32 (a))),(.val (.int .i64 (c))),(.val (.bool (u))),(.val (.bool (d)))])],[]⟩ [] 24
 else Q .normal [(.val (.int .i64 (i))),(.val (.int .i64 (r))),(.vec 5 (L) .none),(.val (.int .i64 ((↑(length L):Int)))),(.val (.int .i64 (wrap i64 ((↑j:Int)+(1:Int)))))] ⟨[(.cells [(.val (.int .i64 (n))),(.vec 5 (L) .none)]),(.cells [(.val (.int .i64 (i'))),(.val (.int .u32 (a))),(.val (.int .i64 (c))),(.val (.bool (u))),(.val (.bool (d)))])],[]⟩ [] 24))
 else Q (.exit 0) [(.val (.int .i64 (i))),(.val (.int .i64 (r))),(.vec 5 (L) .none),(.val (.int .i64 ((↑(length L):Int)))),(.val (.int .i64 ((↑j:Int))))] ⟨[(.cells [(.val (.int .i64 (n))),(.vec 5 (L) .none)])],[]⟩ [] 24):=by kernel_rfl
theorem Fr (n:Int)(L:Bs)(i r i' a c:Int)(u d:Bool)(Q:TV→VT→Prop):aK prog ae (aE [(lh,xH n L i r)]) (bw [(999998,.dead,none),(17,.elt (ei i' a c u d),none)]) 300 bq 0 xE [.ptr 0 0,.val (.int .i64 i)] (b8 n L []) Q=
 (((@Eq (Nat) 0 0)∧
 ((@Eq (List TV) [(.ptr 0 0),(.val (.int .i64 (i)))] [(.ptr 0 0),(.val (.int .i64 (i)))])∧
 (@Eq (Option VO) (.some (.cells [(.val (.int .i64 (n))),(.vec 5 (L) .none)])) (.some (.cells [(.val (.int .i64 (n))),(.vec 5 (L) .none)])))))∧
 (bif decide (r<(0:Int))
 then Q (.agg [(.val (.int .i64 0)),(.val (.int .u32 0)),(.val (.int .i64 0)),(.val (.bool false)),(.val (.bool false))]) ⟨[(.cells [(.val (.int .i64 (n))),(.vec 5 (L) .none)]),(.cells [(.val (.int .i64 0)),(.val (.int .u32 0)),(.val (.int .i64 0)),(.val (.bool false)),(.val (.bool false))])],[]⟩
 else (aI prog (λ_=>.none) (.indexAddr 130 (.tmp 15) (.tmp 16)) [(15,(.vec 5 (L) .none)),(16,(.val (.int .i64 (r))))] (.elt [(.val (.int .i64 (i'))),(.val (.int .u32 (a))),(.val (.int .i64 (c))),(.val (.bool (u))),(.val (.bool (d)))])∧
 Q (.agg [(.val (.int .i64 (i'))),(.val (.int .u32 (a))),(.val (.int .i64 (c))),(.val (.bool (u))),(.val (.bool (d)))]) ⟨[(.cells [(.val (.int .i64 (n))),(.vec 5 (L) .none)]),(.cells [(.val (.int .i64 (i'))),(.val (.int .u32 (a))),(.val (.int .i64 (c))),(.val (.bool (u))),(.val (.bool (d)))])],[]⟩))):=by kernel_rfl
theorem Fs (n:Int)(L:Bs)(i w r a':Int)(u d:Bool)(k:Nat)(Q:TV→VT→Prop):aK prog ae (aE [(lh,xH n L i r)]) (bw [(999998,.dead,none),(999999,.dead,none),(23,.row 5 1 0 L.length,some λT=>T.newRow L.flatten),(37,.ptr 1 (k*5),none),(40,.val (.int .u32 a'),none),(46,.ptr 1 (k*5),none),(500046,.val undef,some λT=>{T with objs:=T.objs.set 1 (.row (aU L.flatten (k*5) (ei i a' w u d)))})]) 300 bq 0 xF [.ptr 0 0,.val (.int .i64 i),.val (.bool u),.val (.bool d),.val (.int .i64 w)] (b8 n L []) Q=
 (((@Eq (Nat) 0 0)∧
 ((@Eq (List TV) [(.ptr 0 0),(.val (.int .i64 (i)))] [(.ptr 0 0),(.val (.int .i64 (i)))])∧
 (@Eq (Option VO) (.some (.cells [(.val (.int .i64 (n))),(.vec 5 (L) .none)])) (.some (.cells [(.val (.int .i64 (n))),(.vec 5 (L) .none)])))))∧
 (bif decide (r<(0:Int))
 then Q (.val (.int .i64 7)) ⟨[(.cells [(.val (.int .i64 (n))),(.vec 5 (L) .none)])],[]⟩
 else (aN prog (λ_=>.none) 0 ⟨[(.cells [(.val (.int .i64 (n))),(.vec 5 (L) .none)])],[]⟩ (.call ⟨(.builtin .append),#[(.tmp 18),(.tmp 22)],#[130,130]⟩) [(18,(.vec 5 [] .full)),(22,(.vec 5 (L) .none))] (.row 5 1 0 (length L)) ⟨[(.cells [(.val (.int .i64 (n))),(.vec 5 (L) .none)]),(.row (flatten L))],[]⟩∧
 (aI prog (λ_=>.none) (.indexAddr 130 (.tmp 35) (.tmp 36)) [(35,(.row 5 1 0 (length L))),(36,(.val (.int .i64 (r))))] (.ptr 1 (k*(5:Nat)))∧
 (cT prog (λ_=>.none) ⟨[(.cells [(.val (.int .i64 (n))),(.row 5 1 0 (length L))]),(.row (flatten L))],[]⟩ false (.load 29 (.tmp 39)) [(39,(.ptr 1 (k*(5:Nat)+
   Field.offset
    #[{name:= "B",type:=(56:Nat),offset:=(0:Nat),embedded:=false,tag:= "",pkgPath:= "",byteOffset:=(0:Nat)},{name:= "Up",type:=(4:Nat),offset:=(3:Nat),embedded:=false,tag:= "",pkgPath:= "",byteOffset:=(24:Nat)},
      {name:= "Drain",type:=(4:Nat),offset:=(4:Nat),embedded:=false,tag:= "",pkgPath:= "",byteOffset:=(25:Nat)}][(0:Nat)]+
  Field.offset
   #[{name:= "Id",type:=(3:Nat),offset:=(0:Nat),embedded:=false,tag:= "",pkgPath:= "",byteOffset:=(0:Nat)},{name:= "Addr",type:=(29:Nat),offset:=(1:Nat),embedded:=false,tag:= "",pkgPath:= "",byteOffset:=(8:Nat)},
     {name:= "Weight",type:=(3:Nat),offset:=(2:Nat),embedded:=false,tag:= "",pkgPath:= "",byteOffset:=(16:Nat)}][(1:Nat)])))] (.val (.int .u32 (a')))∧
 (aI prog (λ_=>.none) (.indexAddr 130 (.tmp 29) (.tmp 30)) [(29,(.row 5 1 0 (length L))),(30,(.val (.int .i64 (r))))] (.ptr 1 (k*(5:Nat)))∧
 (aN prog (λ_=>.none) 0 ⟨[(.cells [(.val (.int .i64 (n))),(.row 5 1 0 (length L))]),(.row (flatten L))],[]⟩ (.store 135 (.tmp 46) (.tmp 45)) [(46,(.ptr 1 (k*(5:Nat)))),(45,(.agg [(.val (.int .i64 (i))),(.val (.int .u32 (a'))),(.val (.int .i64 (w))),(.val (.bool (u))),(.val (.bool (d)))]))] (.val (.tuple #[])) ⟨[(.cells [(.val (.int .i64 (n))),(.row 5 1 0 (length L))]),(.row (aU (flatten L) (k*(5:Nat)) (ei i a' w u d)))],[]⟩∧
 Q (.val (.int .i64 0)) ⟨[(.cells [(.val (.int .i64 (n))),(.row 5 1 0 (length L))]),(.row (aU (flatten L) (k*(5:Nat)) (ei i a' w u d)))],[]⟩))))))):=by kernel_rfl
theorem J6 (n:Int)(L:Bs)(i i' a c:Int)(q u d:Bool)(Is:Bs→Prop)(Q:TV→VT→Prop):aK prog ae (aE [(xE,CD n L i (ei i' a c u d)),(xF,CE n L i c q d Is)]) bv 300 bq 0 CB [.ptr 0 0,.val (.int .i64 i),.val (.bool q)] (b8 n L []) Q=
 (((@Eq (Nat) 0 0)∧
 ((@Eq (List TV) [(.ptr 0 0),(.val (.int .i64 (i)))] [(.ptr 0 0),(.val (.int .i64 (i)))])∧
 (@Eq (Option VO) (.some (.cells [(.val (.int .i64 (n))),(.vec 5 (L) .none)])) (.some (.cells [(.val (.int .i64 (n))),(.vec 5 (L) .none)])))))∧
 (((@Eq (Nat) 0 0)∧
 ((@Eq (List TV) [(.ptr 0 0),(.val (.int .i64 (i))),(.val (.bool (q))),(.val (.bool (d))),(.val (.int .i64 (c)))] [(.ptr 0 0),(.val (.int .i64 (i))),(.val (.bool (q))),(.val (.bool (d))),(.val (.int .i64 (c)))])∧
 (@Eq (Option VO) (.some (.cells [(.val (.int .i64 (n))),(.vec 5 (L) .none)])) (.some (.cells [(.val (.int .i64 (n))),(.vec 5 (L) .none)])))))∧
 (∀e:Int,(∀L':Bs,(Is (L')→Q (.val (.int .i64 (e))) ⟨[(.cells [(.val (.int .i64 (n))),(.vec 5 (L') .none)]),(.cells [(.val (.int .i64 (i'))),(.val (.int .u32 (a))),(.val (.int .i64 (c))),(.val (.bool (u))),(.val (.bool (d)))])],[]⟩))))):=by kernel_rfl
theorem J7 (n:Int)(L:Bs)(i i' a c:Int)(q u d:Bool)(Is:Bs→Prop)(Q:TV→VT→Prop):aK prog ae (aE [(xE,CD n L i (ei i' a c u d)),(xF,CE n L i c u q Is)]) bv 300 bq 0 CC [.ptr 0 0,.val (.int .i64 i),.val (.bool q)] (b8 n L []) Q=
 (((@Eq (Nat) 0 0)∧
 ((@Eq (List TV) [(.ptr 0 0),(.val (.int .i64 (i)))] [(.ptr 0 0),(.val (.int .i64 (i)))])∧
 (@Eq (Option VO) (.some (.cells [(.val (.int .i64 (n))),(.vec 5 (L) .none)])) (.some (.cells [(.val (.int .i64 (n))),(.vec 5 (L) .none)])))))∧
 (((@Eq (Nat) 0 0)∧
 ((@Eq (List TV) [(.ptr 0 0),(.val (.int .i64 (i))),(.val (.bool (u))),(.val (.bool (q))),(.val (.int .i64 (c)))] [(.ptr 0 0),(.val (.int .i64 (i))),(.val (.bool (u))),(.val (.bool (q))),(.val (.int .i64 (c)))])∧
 (@Eq (Option VO) (.some (.cells [(.val (.int .i64 (n))),(.vec 5 (L) .none)])) (.some (.cells [(.val (.int .i64 (n))),(.vec 5 (L) .none)])))))∧
 (∀e:Int,(∀L':Bs,(Is (L')→Q (.val (.int .i64 (e))) ⟨[(.cells [(.val (.int .i64 (n))),(.vec 5 (L') .none)]),(.cells [(.val (.int .i64 (i'))),(.val (.int .u32 (a))),(.val (.int .i64 (c))),(.val (.bool (u))),(.val (.bool (d)))])],[]⟩))))):=by kernel_rfl
theorem J8 (n:Int)(L:Bs)(i a c r:Int)(k:Nat)(Q:TV→VT→Prop):aK prog ae (aE [(lh,xH n L i r)]) (bw [(999998,.dead,none),(73,.vec 5 (L.take k) .none,none),(84,.vec 5 (L.drop k) .none,none),(74,.vec 5 (L.take k) (.tail 0 (L.take k).length),some λT=>xI 5 T (L.take k).length),(78,.vec 5 (L.take k++ [ei i a c false false]) (.tail 0 ((L.take k).length+1)),some λT=>xI 5 T ((L.take k).length+1)),(85,.vec 5 (L.take k++ [ei i a c false false]++L.drop k) (.tail 0 ((L.take k).length+1+(L.drop k).length)),some λT=>xI 5 T ((L.take k).length+1+(L.drop k).length))]) 300 (KT n L i a c k (av prog pu 1)) 0 pu [.ptr 0 0,.agg (eV i a c)] (b8 n L []) Q=
 (bif decide (i<(0:Int))
 then Q (.val (.int .i64 2)) ⟨[(.cells [(.val (.int .i64 (n))),(.vec 5 (L) .none)]),(.cells [(.val (.int .i64 (i))),(.val (.int .u32 (a))),(.val (.int .i64 (c)))])],[]⟩
 else (bif decide (i>(255:Int))
 then Q (.val (.int .i64 2)) ⟨[(.cells [(.val (.int .i64 (n))),(.vec 5 (L) .none)]),(.cells [(.val (.int .i64 (i))),(.val (.int .u32 (a))),(.val (.int .i64 (c)))])],[]⟩
 else (bif bE eql (aj (Value.int u32 a) (Value.int u32 (0:Int)))
 then Q (.val (.int .i64 2)) ⟨[(.cells [(.val (.int .i64 (n))),(.vec 5 (L) .none)]),(.cells [(.val (.int .i64 (i))),(.val (.int .u32 (a))),(.val (.int .i64 (c)))])],[]⟩
 else (bif decide (c<(0:Int))
 then Q (.val (.int .i64 2)) ⟨[(.cells [(.val (.int .i64 (n))),(.vec 5 (L) .none)]),(.cells [(.val (.int .i64 (i))),(.val (.int .u32 (a))),(.val (.int .i64 (c)))])],[]⟩
 else (bif decide (c>(100:Int))
 then Q (.val (.int .i64 2)) ⟨[(.cells [(.val (.int .i64 (n))),(.vec 5 (L) .none)]),(.cells [(.val (.int .i64 (i))),(.val (.int .u32 (a))),(.val (.int .i64 (c)))])],[]⟩
 else (((@Eq (Nat) 0 0)∧
 ((@Eq (List TV) [(.ptr 0 0),(.val (.int .i64 (i)))] [(.ptr 0 0),(.val (.int .i64 (i)))])∧
 (@Eq (Option VO) (.some (.cells [(.val (.int .i64 (n))),(.vec 5 (L) .none)])) (.some (.cells [(.val (.int .i64 (n))),(.vec 5 (L) .none)])))))∧
 (bif decide (r≥(0:Int))
 then Q (.val (.int .i64 13)) ⟨[(.cells [(.val (.int .i64 (n))),(.vec 5 (L) .none)]),(.cells [(.val (.int .i64 (i))),(.val (.int .u32 (a))),(.val (.int .i64 (c)))])],[]⟩
 else (bif decide ((↑(length L):Int)≥(16:Int))
 then Q (.val (.int .i64 6)) ⟨[(.cells [(.val (.int .i64 (n))),(.vec 5 (L) .none)]),(.cells [(.val (.int .i64 (i))),(.val (.int .u32 (a))),(.val (.int .i64 (c)))])],[]⟩
 else ((av prog pu (1:Nat)=av prog pu (1:Nat))∧
 (((@Eq (Option Nat) .none .none)∧
 ((@Eq (Nat) 0 0)∧
 ((@Eq (List Nat) [] [])∧
 (True  ∧
 ((@Eq (VT) ⟨[(.cells [(.val (.int .i64 (n))),(.vec 5 (L) .none)]),(.cells [(.val (.int .i64 (i))),(.val (.int .u32 (a))),(.val (.int .i64 (c)))])],[]⟩ ⟨[(.cells [(.val (.int .i64 (n))),(.vec 5 (L) .none)]),(.cells [(.val (.int .i64 (i))),(.val (.int .u32 (a))),(.val (.int .i64 (c)))])],[]⟩)∧
 ((@Eq (Bool) true true)∧
 (@Eq (List TV) [(.ptr 0 0),(.ptr 1 0),(.val (.int .i64 0))] [(.ptr 0 0),(.ptr 1 0),(.val (.int .i64 0))])))))))∧
 (aI prog (λ_=>.none) (.slice 130 (.tmp 71) .none (.some (.tmp 72)) .none) [(71,(.vec 5 (L) .none)),(72,(.val (.int .i64 ((↑k:Int)))))] (.vec 5 (List.take k L) .none)∧
 (aI prog (λ_=>.none) (.slice 130 (.tmp 82) (.some (.tmp 83)) .none .none) [(82,(.vec 5 (L) .none)),(83,(.val (.int .i64 ((↑k:Int)))))] (.vec 5 (drop k L) .none)∧
 (aN prog (λ_=>.none) 0 ⟨[(.cells [(.val (.int .i64 (n))),(.vec 5 (L) .none)]),(.cells [(.val (.int .i64 (i))),(.val (.int .u32 (a))),(.val (.int .i64 (c)))])],[]⟩ (.call ⟨(.builtin .append),#[(.tmp 67),(.tmp 73)],#[130,130]⟩) [(67,(.vec 5 [] .full)),(73,(.vec 5 (List.take k L) .none))] (.vec 5 (List.take k L) (.tail 0 (length (List.take k L)))) ⟨[(.cells [(.val (.int .i64 (n))),(.vec 5 (L) .none)]),(.cells [(.val (.int .i64 (i))),(.val (.int .u32 (a))),(.val (.int .i64 (c)))])],[((length (List.take k L)),(5,false))]⟩∧
 (((@Eq (Option TV) (.some (.vec 5 (L) .none)) (.some (.vec 5 (L) .none)))∧
 ((@Eq (Option TV) (.some (.agg [(.val (.int .i64 (i))),(.val (.int .u32 (a))),(.val (.int .i64 (c)))])) (.some (.agg [(.val (.int .i64 (i))),(.val (.int .u32 (a))),(.val (.int .i64 (c)))])))∧
 ((@Eq (Option TV) (.some (.vec 5 (L) .none)) (.some (.vec 5 (L) .none)))∧
 True)))∧
 (aN prog (λ_=>.none) 0 ⟨[(.cells [(.val (.int .i64 (n))),(.vec 5 (L) .none)]),(.cells [(.val (.int .i64 (i))),(.val (.int .u32 (a))),(.val (.int .i64 (c)))])],[((length (List.take k L)),(5,false))]⟩ (.call ⟨(.builtin .append),#[(.tmp 74),(.tmp 77)],#[130,130]⟩) [(74,(.vec 5 (List.take k L) (.tail 0 (length (List.take k L))))),(77,(.vec 5 [[(.val (.int .i64 (i))),(.val (.int .u32 (a))),(.val (.int .i64 (c))),(.val (.bool false)),(.val (.bool false))]] .full))] (.vec 5 (List.take k L++ [ei i a c false false]) (.tail 0 (length (List.take k L)+(1:Nat)))) ⟨[(.cells [(.val (.int .i64 (n))),(.vec 5 (L) .none)]),(.cells [(.val (.int .i64 (i))),(.val (.int .u32 (a))),(.val (.int .i64 (c)))])],[((length (List.take k L)+(1:Nat)),(5,false))]⟩∧
 (((@Eq (Option TV) (.some (.vec 5 (L) .none)) (.some (.vec 5 (L) .none)))∧
 ((@Eq (Option TV) (.some (.agg [(.val (.int .i64 (i))),(.val (.int .u32 (a))),(.val (.int .i64 (c)))])) (.some (.agg [(.val (.int .i64 (i))),(.val (.int .u32 (a))),(.val (.int .i64 (c)))])))∧
 ((@Eq (Option TV) (.some (.vec 5 (L) .none)) (.some (.vec 5 (L) .none)))∧
 True)))∧
 (aN prog (λ_=>.none) 0 ⟨[(.cells [(.val (.int .i64 (n))),(.vec 5 (L) .none)]),(.cells [(.val (.int .i64 (i))),(.val (.int .u32 (a))),(.val (.int .i64 (c)))])],[((length (List.take k L)+(1:Nat)),(5,false))]⟩ (.call ⟨(.builtin .append),#[(.tmp 78),(.tmp 84)],#[130,130]⟩) [(78,(.vec 5 (List.take k L++ [ei i a c false false]) (.tail 0 (length (List.take k L)+(1:Nat))))),(84,(.vec 5 (drop k L) .none))] (.vec 5 (List.take k L++ [ei i a c false false]++drop k L) (.tail 0 (length (List.take k L)+(1:Nat)+length (drop k L)))) ⟨[(.cells [(.val (.int .i64 (n))),(.vec 5 (L) .none)]),(.cells [(.val (.int .i64 (i))),(.val (.int .u32 (a))),(.val (.int .i64 (c)))])],[((length (List.take k L)+(1:Nat)+length (drop k L)),(5,false))]⟩∧
 Q (.val (.int .i64 0)) ⟨[(.cells [(.val (.int .i64 (n))),(.vec 5 (List.take k L++ [ei i a c false false]++drop k L) (.tail 0 (length (List.take k L)+(1:Nat)+length (drop k L))))]),(.cells [(.val (.int .i64 (i))),(.val (.int .u32 (a))),(.val (.int .i64 (c)))])],[((length (List.take k L)+(1:Nat)+length (drop k L)),(5,false))]⟩))))))))))))))))):=by kernel_rfl
theorem CH (n:Int)(L:Bs)(i a c i' a' c':Int)(u d:Bool)(j:Nat)(Q:Exit→List TV→VT→List Nat→Nat→Prop):vx prog ae c9 (bw [(999998,.dead,none),(56,.elt (ei i' a' c' u d),none)]) 300 bq none 0 (dh prog pu 1) (ax 88 CF (zj j)) (b8 n L [.cells (eV i a c)]) [] (dl CF Q)=
 (bif decide ((↑j:Int)<(↑(length L):Int))
 then (aI prog (λ_=>.none) (.indexAddr 130 (.tmp 54) (.tmp 55)) [(54,(.vec 5 (L) .none)),(55,(.val (.int .i64 ((↑j:Int)))))] (.elt [(.val (.int .i64 (i'))),(.val (.int .u32 (a'))),(.val (.int .i64 (c'))),(.val (.bool (u))),(.val (.bool (d)))])∧
 (bif decide (i' <i)
 then Q .normal [(.ptr 0 0),(.ptr 1 0),(.val (.int .i64 (wrap i64 ((↑j:Int)+(1:Int)))))] ⟨[(.cells [(.val (.int .i64 (n))),(.vec 5 (L) .none)]),(.cells [(.val (.int .i64 (i))),(.val (.int .u32 (a))),(.val (.int .i64 (c)))])],[]⟩ [] 88
 else Q (.exit 1) [(.ptr 0 0),(.ptr 1 0),(.val (.int .i64 ((↑j:Int))))] ⟨[(.cells [(.val (.int .i64 (n))),(.vec 5 (L) .none)]),(.cells [(.val (.int .i64 (i))),(.val (.int .u32 (a))),(.val (.int .i64 (c)))])],[]⟩ [] 88))
 else Q (.exit 1) [(.ptr 0 0),(.ptr 1 0),(.val (.int .i64 ((↑j:Int))))] ⟨[(.cells [(.val (.int .i64 (n))),(.vec 5 (L) .none)]),(.cells [(.val (.int .i64 (i))),(.val (.int .u32 (a))),(.val (.int .i64 (c)))])],[]⟩ [] 88):=by kernel_rfl
theorem J9 (w c g:Int)(L:Bs)(p s d sp dp r:Int)(hit:Bool)(Q:TV→VT→Prop):aK prog ae c9 bv 300 (KU w c g L (bV p s d sp dp) r hit (av prog qP 0)) 0 qP [.ptr 0 0,.agg (bV p s d sp dp)] ⟨[uO w L c g],[]⟩ Q=
 ((av prog qP (0:Nat)=av prog qP (0:Nat))∧
 (((@Eq (Option Nat) .none .none)∧
 ((@Eq (Nat) 0 0)∧
 ((@Eq (List Nat) [] [])∧
 (True  ∧
 ((@Eq (VT) ⟨[(.cells [(.val (.int .i64 20)),(.val (.int .i64 100)),(.val (.int .i64 (w))),(.vec 7 (L) .none),(.val (.int .i64 (c))),(.val (.int .i64 (g)))]),(.cells [(.val (.int .i64 (p))),(.val (.int .u32 (s))),(.val (.int .u32 (d))),(.val (.int .i64 (sp))),(.val (.int .i64 (dp)))])],[]⟩ ⟨[(.cells [(.val (.int .i64 20)),(.val (.int .i64 100)),(.val (.int .i64 (w))),(.vec 7 (L) .none),(.val (.int .i64 (c))),(.val (.int .i64 (g)))]),(.cells [(.val (.int .i64 (p))),(.val (.int .u32 (s))),(.val (.int .u32 (d))),(.val (.int .i64 (sp))),(.val (.int .i64 (dp)))])],[]⟩)∧
 ((@Eq (Bool) true true)∧
 (@Eq (List TV) [(.ptr 1 0),(.val (.int .i64 0)),(.vec 7 (L) .none),(.val (.int .i64 ((↑(length L):Int)))),(.val (.int .i64 0))] [(.ptr 1 0),(.val (.int .i64 0)),(.vec 7 (L) .none),(.val (.int .i64 ((↑(length L):Int)))),(.val (.int .i64 0))])))))))∧
 (bif hit
 then (∀cs:List TV,Q (.val (.int .i64 (r))) ⟨[(.cells [(.val (.int .i64 20)),(.val (.int .i64 100)),(.val (.int .i64 (w))),(.vec 7 (L) .none),(.val (.int .i64 (c))),(.val (.int .i64 (g)))]),(.cells [(.val (.int .i64 (p))),(.val (.int .u32 (s))),(.val (.int .u32 (d))),(.val (.int .i64 (sp))),(.val (.int .i64 (dp)))]),(.cells (cs))],[]⟩)
 else Q (.val (.int .i64 (-1))) ⟨[(.cells [(.val (.int .i64 20)),(.val (.int .i64 100)),(.val (.int .i64 (w))),(.vec 7 (L) .none),(.val (.int .i64 (c))),(.val (.int .i64 (g)))]),(.cells [(.val (.int .i64 (p))),(.val (.int .u32 (s))),(.val (.int .u32 (d))),(.val (.int .i64 (sp))),(.val (.int .i64 (dp)))])],[]⟩))):=by kernel_rfl
theorem CI (w c g:Int)(L:Bs)(p s d sp dp r p' s' d' sp' dp' b l:Int)(j:Nat)(Q:Exit→List TV→VT→List Nat→Nat→Prop):vx prog ae c9 (bw [(999998,.dead,none),(15,.elt (iU (bV p' s' d' sp' dp') b l),none)]) 300 bq none 0 (dh prog qP 0) (ax 23 zk (va L r j)) ⟨[uO w L c g,.cells (bV p s d sp dp)],[]⟩ [] (dl zk Q)=
 (bif decide ((↑j:Int)<(↑(length L):Int))
 then (aI prog (λ_=>.none) (.indexAddr 127 (.tmp 10) (.tmp 12)) [(10,(.vec 7 (L) .none)),(12,(.val (.int .i64 ((↑j:Int)))))] (.elt [(.val (.int .i64 (p'))),(.val (.int .u32 (s'))),(.val (.int .u32 (d'))),(.val (.int .i64 (sp'))),(.val (.int .i64 (dp'))),(.val (.int .i64 (b))),(.val (.int .i64 (l)))])∧
 (bif bE eql
  (aj ((λvs=>Value.agg (toArray vs)) ((λx=>Value.int i64 p'::x) ((λx=>Value.int u32 s'::x) ((λx=>Value.int u32 d'::x) ((λx=>Value.int i64 sp'::x) ((λx=>Value.int i64 dp'::x) []))))))
    ((λvs=>Value.agg (toArray vs)) ((λx=>Value.int i64 p::x) ((λx=>Value.int u32 s::x) ((λx=>Value.int u32 d::x) ((λx=>Value.int i64 sp::x) ((λx=>Value.int i64 dp::x) [])))))))
 then Q .ret [(.ptr 1 0),(.val (.int .i64 ((↑j:Int)))),(.vec 7 (L) .none),(.val (.int .i64 ((↑(length L):Int)))),(.val (.int .i64 ((↑j:Int))))] ⟨[(.cells [(.val (.int .i64 20)),(.val (.int .i64 100)),(.val (.int .i64 (w))),(.vec 7 (L) .none),(.val (.int .i64 (c))),(.val (.int .i64 (g)))]),(.cells [(.val (.int .i64 (p))),(.val (.int .u32 (s))),(.val (.int .u32 (d))),(.val (.int .i64 (sp))),(.val (.int .i64 (dp)))]),(.cells [(.val (.int .i64 (p'))),(.val (.int .u32 (s'))),(.val (.int .u32 (d'))),(.val (.int .i64 (sp'))),(.val (.int .i64 (dp'))),(.val (.int .i64 (b))),(.val (.int .i64 (l)))])],[]⟩ [] 23
 else Q .normal [(.ptr 1 0),(.val (.int .i64 (r))),(.vec 7 (L) .none),(.val (.int .i64 ((↑(length L):Int)))),(.val (.int .i64 (wrap i64 ((↑j:Int)+(1:Int)))))] ⟨[(.cells [(.val (.int .i64 20)),(.val (.int .i64 100)),(.val (.int .i64 (w))),(.vec 7 (L) .none),(.val (.int .i64 (c))),(.val (.int .i64 (g)))]),(.cells [(.val (.int .i64 (p))),(.val (.int .u32 (s))),(.val (.int .u32 (d))),(.val (.int .i64 (sp))),(.val (.int .i64 (dp)))]),(.cells [(.val (.int .i64 (p'))),(.val (.int .u32 (s'))),(.val (.int .u32 (d'))),(.val (.int .i64 (sp'))),(.val (.int .i64 (dp'))),(.val (.int .i64 (b))),(.val (.int .i64 (l)))])],[]⟩ [] 23))
 else Q (.exit 0) [(.ptr 1 0),(.val (.int .i64 (r))),(.vec 7 (L) .none),(.val (.int .i64 ((↑(length L):Int)))),(.val (.int .i64 ((↑j:Int))))] ⟨[(.cells [(.val (.int .i64 20)),(.val (.int .i64 100)),(.val (.int .i64 (w))),(.vec 7 (L) .none),(.val (.int .i64 (c))),(.val (.int .i64 (g)))]),(.cells [(.val (.int .i64 (p))),(.val (.int .u32 (s))),(.val (.int .u32 (d))),(.val (.int .i64 (sp))),(.val (.int .i64 (dp)))])],[]⟩ [] 23):=by kernel_rfl
theorem Ka (w c g:Int)(L:Bs)(i:Int)(k:Nat)(Q:TV→VT→Prop):aK prog ae c9 (bw [(999998,.dead,none),(11,.vec 7 (L.take k) .none,none),(19,.vec 7 (L.drop (k+1)) .none,none),(12,.vec 7 (L.take k) (.tail 0 (L.take k).length),some λT=>xI 7 T (L.take k).length),(20,.vec 7 (L.take k++L.drop (k+1)) (.tail 0 ((L.take k).length+(L.drop (k+1)).length)),some λT=>xI 7 T ((L.take k).length+(L.drop (k+1)).length))]) 300 bq 0 Fo [.ptr 0 0,.val (.int .i64 i)] ⟨[uO w L c g],[]⟩ Q=
 (aI prog (λ_=>.none) (.slice 127 (.tmp 9) .none (.some (.tmp 10)) .none) [(9,(.vec 7 (L) .none)),(10,(.val (.int .i64 (i))))] (.vec 7 (List.take k L) .none)∧
 (aI prog (λ_=>.none) (.slice 127 (.tmp 16) (.some (.tmp 18)) .none .none) [(16,(.vec 7 (L) .none)),(18,(.val (.int .i64 (wrap i64 (i+(1:Int))))))] (.vec 7 (drop (k+(1:Nat)) L) .none)∧
 (aN prog (λ_=>.none) 0 ⟨[(.cells [(.val (.int .i64 20)),(.val (.int .i64 100)),(.val (.int .i64 (w))),(.vec 7 (L) .none),(.val (.int .i64 (c))),(.val (.int .i64 (g)))])],[]⟩ (.call ⟨(.builtin .append),#[(.tmp 5),(.tmp 11)],#[127,127]⟩) [(5,(.vec 7 [] .full)),(11,(.vec 7 (List.take k L) .none))] (.vec 7 (List.take k L) (.tail 0 (length (List.take k L)))) ⟨[(.cells [(.val (.int .i64 20)),(.val (.int .i64 100)),(.val (.int .i64 (w))),(.vec 7 (L) .none),(.val (.int .i64 (c))),(.val (.int .i64 (g)))])],[((length (List.take k L)),(7,false))]⟩∧
 (((@Eq (Option TV) (.some (.vec 7 (L) .none)) (.some (.vec 7 (L) .none)))∧
 ((@Eq (Option TV) (.some (.vec 7 (L) .none)) (.some (.vec 7 (L) .none)))∧
 True))∧
 (aN prog (λ_=>.none) 0 ⟨[(.cells [(.val (.int .i64 20)),(.val (.int .i64 100)),(.val (.int .i64 (w))),(.vec 7 (L) .none),(.val (.int .i64 (c))),(.val (.int .i64 (g)))])],[((length (List.take k L)),(7,false))]⟩ (.call ⟨(.builtin .append),#[(.tmp 12),(.tmp 19)],#[127,127]⟩) [(12,(.vec 7 (List.take k L) (.tail 0 (length (List.take k L))))),(19,(.vec 7 (drop (k+(1:Nat)) L) .none))] (.vec 7 (List.take k L++drop (k+(1:Nat)) L) (.tail 0 (length (List.take k L)+length (drop (k+(1:Nat)) L)))) ⟨[(.cells [(.val (.int .i64 20)),(.val (.int .i64 100)),(.val (.int .i64 (w))),(.vec 7 (L) .none),(.val (.int .i64 (c))),(.val (.int .i64 (g)))])],[((length (List.take k L)+length (drop (k+(1:Nat)) L)),(7,false))]⟩∧
 Q (.tup []) ⟨[(.cells [(.val (.int .i64 20)),(.val (.int .i64 100)),(.val (.int .i64 (w))),(.vec 7 (List.take k L++drop (k+(1:Nat)) L) (.tail 0 (length (List.take k L)+length (drop (k+(1:Nat)) L)))),(.val (.int .i64 (c))),(.val (.int .i64 (g)))])],[((length (List.take k L)+length (drop (k+(1:Nat)) L)),(7,false))]⟩))))):=by kernel_rfl
theorem Kb (c g:Int)(L M:Bs)(L1:Int→Bs)(ok:Int→Prop)(p s d sp dp b r p' s' d' sp' dp' b' l':Int)(Q:TV→VT→Prop):aK prog ae (aE [(qP,Fp L (bV p s d sp dp) r),(Fo,Fq L L1 ok)]) (bw [(999998,.dead,none),(45,.elt (iU (bV p' s' d' sp' dp') b' l'),none),(62,.vec 7 M (.tail 0 M.length),some λT=>xI 7 T M.length),(68,.vec 7 (M++ [iU (bV p s d sp dp) b 0]) (.tail 0 (M.length+1)),some λT=>xI 7 T (M.length+1))]) 300 bq 0 xG [.ptr 0 0,.agg (bV p s d sp dp),.val (.int .i64 b),.val (.int .i64 0)] ⟨[uO 0 L c g],[]⟩ Q=
 (((@Eq (Nat) 0 0)∧
 ((@Eq (List TV) [(.val (.int .i64 (p))),(.val (.int .u32 (s))),(.val (.int .u32 (d))),(.val (.int .i64 (sp))),(.val (.int .i64 (dp)))] [(.val (.int .i64 (p))),(.val (.int .u32 (s))),(.val (.int .u32 (d))),(.val (.int .i64 (sp))),(.val (.int .i64 (dp)))])∧
 (@Eq (List (List TV)) (L) (L))))∧
 (bif decide (r≥(0:Int))
 then (((@Eq (Nat) 0 0)∧
 ((@Eq (List (List TV)) (L) (L))∧
 ok (r)))∧
 (aN prog (λ_=>.none) 0 ⟨[(.cells [(.val (.int .i64 20)),(.val (.int .i64 100)),(.val (.int .i64 0)),(.vec 7 (L1 r) .none),(.val (.int .i64 (c))),(.val (.int .i64 (g)))]),(.cells [(.val (.int .i64 (p))),(.val (.int .u32 (s))),(.val (.int .u32 (d))),(.val (.int .i64 (sp))),(.val (.int .i64 (dp)))]),(.cells [(.val (.int .i64 0)),(.val (.int .u32 0)),(.val (.int .u32 0)),(.val (.int .i64 0)),(.val (.int .i64 0)),(.val (.int .i64 0)),(.val (.int .i64 0))]),(.cells [(.val (.int .i64 0)),(.val (.int .u32 0)),(.val (.int .u32 0)),(.val (.int .i64 0)),(.val (.int .i64 0)),(.val (.int .i64 0)),(.val (.int .i64 0))])],[]⟩ (.call ⟨(.builtin .append),#[(.tmp 57),(.tmp 61)],#[127,127]⟩) [(57,(.vec 7 [] .full)),(61,(.vec 7 (L1 r) .none))] (.vec 7 (M) (.tail 0 (length M))) ⟨[(.cells [(.val (.int .i64 20)),(.val (.int .i64 100)),(.val (.int .i64 0)),(.vec 7 (L1 r) .none),(.val (.int .i64 (c))),(.val (.int .i64 (g)))]),(.cells [(.val (.int .i64 (p))),(.val (.int .u32 (s))),(.val (.int .u32 (d))),(.val (.int .i64 (sp))),(.val (.int .i64 (dp)))]),(.cells [(.val (.int .i64 0)),(.val (.int .u32 0)),(.val (.int .u32 0)),(.val (.int .i64 0)),(.val (.int .i64 0)),(.val (.int .i64 0)),(.val (.int .i64 0))]),(.cells [(.val (.int .i64 0)),(.val (.int .u32 0)),(.val (.int .u32 0)),(.val (.int .i64 0)),(.val (.int .i64 0)),(.val (.int .i64 0)),(.val (.int .i64 0))])],[((length M),(7,false))]⟩∧
 (((@Eq (Option TV) (.some (.agg [(.val (.int .i64 (p))),(.val (.int .u32 (s))),(.val (.int .u32 (d))),(.val (.int .i64 (sp))),(.val (.int .i64 (dp)))])) (.some (.agg [(.val (.int .i64 (p))),(.val (.int .u32 (s))),(.val (.int .u32 (d))),(.val (.int .i64 (sp))),(.val (.int .i64 (dp)))])))∧
 ((@Eq (Option TV) (.some (.vec 7 (L1 r) .none)) (.some (.vec 7 (L1 r) .none)))∧
 True))∧
 (aN prog (λ_=>.none) 0 ⟨[(.cells [(.val (.int .i64 20)),(.val (.int .i64 100)),(.val (.int .i64 0)),(.vec 7 (L1 r) .none),(.val (.int .i64 (c))),(.val (.int .i64 (g)))]),(.cells [(.val (.int .i64 (p))),(.val (.int .u32 (s))),(.val (.int .u32 (d))),(.val (.int .i64 (sp))),(.val (.int .i64 (dp)))]),(.cells [(.val (.int .i64 0)),(.val (.int .u32 0)),(.val (.int .u32 0)),(.val (.int .i64 0)),(.val (.int .i64 0)),(.val (.int .i64 0)),(.val (.int .i64 0))]),(.cells [(.val (.int .i64 0)),(.val (.int .u32 0)),(.val (.int .u32 0)),(.val (.int .i64 0)),(.val (.int .i64 0)),(.val (.int .i64 0)),(.val (.int .i64 0))])],[((length M),(7,false))]⟩ (.call ⟨(.builtin .append),#[(.tmp 62),(.tmp 67)],#[127,127]⟩) [(62,(.vec 7 (M) (.tail 0 (length M)))),(67,(.vec 7 [[(.val (.int .i64 (p))),(.val (.int .u32 (s))),(.val (.int .u32 (d))),(.val (.int .i64 (sp))),(.val (.int .i64 (dp))),(.val (.int .i64 (b))),(.val (.int .i64 0))]] .full))] (.vec 7 (M++ [iU (bV p s d sp dp) b (0:Int)]) (.tail 0 (length M+(1:Nat)))) ⟨[(.cells [(.val (.int .i64 20)),(.val (.int .i64 100)),(.val (.int .i64 0)),(.vec 7 (L1 r) .none),(.val (.int .i64 (c))),(.val (.int .i64 (g)))]),(.cells [(.val (.int .i64 (p))),(.val (.int .u32 (s))),(.val (.int .u32 (d))),(.val (.int .i64 (sp))),(.val (.int .i64 (dp)))]),(.cells [(.val (.int .i64 0)),(.val (.int .u32 0)),(.val (.int .u32 0)),(.val (.int .i64 0)),(.val (.int .i64 0)),(.val (.int .i64 0)),(.val (.int .i64 0))]),(.cells [(.val (.int .i64 0)),(.val (.int .u32 0)),(.val (.int .u32 0)),(.val (.int .i64 0)),(.val (.int .i64 0)),(.val (.int .i64 0)),(.val (.int .i64 0))])],[((length M+(1:Nat)),(7,false))]⟩∧
 Q (.tup [(.agg [(.val (.int .i64 0)),(.val (.int .u32 0)),(.val (.int .u32 0)),(.val (.int .i64 0)),(.val (.int .i64 0)),(.val (.int .i64 0)),(.val (.int .i64 0))]),(.val (.bool false))]) ⟨[(.cells [(.val (.int .i64 20)),(.val (.int .i64 100)),(.val (.int .i64 0)),(.vec 7 (M++ [iU (bV p s d sp dp) b (0:Int)]) (.tail 0 (length M+(1:Nat)))),(.val (.int .i64 (c))),(.val (.int .i64 (g)))]),(.cells [(.val (.int .i64 (p))),(.val (.int .u32 (s))),(.val (.int .u32 (d))),(.val (.int .i64 (sp))),(.val (.int .i64 (dp)))]),(.cells [(.val (.int .i64 0)),(.val (.int .u32 0)),(.val (.int .u32 0)),(.val (.int .i64 0)),(.val (.int .i64 0)),(.val (.int .i64 0)),(.val (.int .i64 0))]),(.cells [(.val (.int .i64 0)),(.val (.int .u32 0)),(.val (.int .u32 0)),(.val (.int .i64 0)),(.val (.int .i64 0)),(.val (.int .i64 0)),(.val (.int .i64 0))])],[((length M+(1:Nat)),(7,false))]⟩))))
 else (bif decide ((↑(length L):Int)≥(20:Int))
 then (aI prog (λ_=>.none) (.indexAddr 127 (.tmp 44) (.const (.int .i64 0))) [(44,(.vec 7 (L) .none))] (.elt [(.val (.int .i64 (p'))),(.val (.int .u32 (s'))),(.val (.int .u32 (d'))),(.val (.int .i64 (sp'))),(.val (.int .i64 (dp'))),(.val (.int .i64 (b'))),(.val (.int .i64 (l')))])∧
 (((@Eq (Nat) 0 0)∧
 ((@Eq (List (List TV)) (L) (L))∧
 ok 0))∧
 (aN prog (λ_=>.none) 0 ⟨[(.cells [(.val (.int .i64 20)),(.val (.int .i64 100)),(.val (.int .i64 0)),(.vec 7 (L1 (0:Int)) .none),(.val (.int .i64 (wrap i64 (c+(1:Int))))),(.val (.int .i64 (wrap i64 (g+(1:Int)))))]),(.cells [(.val (.int .i64 (p))),(.val (.int .u32 (s))),(.val (.int .u32 (d))),(.val (.int .i64 (sp))),(.val (.int .i64 (dp)))]),(.cells [(.val (.int .i64 0)),(.val (.int .u32 0)),(.val (.int .u32 0)),(.val (.int .i64 0)),(.val (.int .i64 0)),(.val (.int .i64 0)),(.val (.int .i64 0))]),(.cells [(.val (.int .i64 (p'))),(.val (.int .u32 (s'))),(.val (.int .u32 (d'))),(.val (.int .i64 (sp'))),(.val (.int .i64 (dp'))),(.val (.int .i64 (b'))),(.val (.int .i64 (l')))])],[]⟩ (.call ⟨(.builtin .append),#[(.tmp 57),(.tmp 61)],#[127,127]⟩) [(57,(.vec 7 [] .full)),(61,(.vec 7 (L1 (0:Int)) .none))] (.vec 7 (M) (.tail 0 (length M))) ⟨[(.cells [(.val (.int .i64 20)),(.val (.int .i64 100)),(.val (.int .i64 0)),(.vec 7 (L1 (0:Int)) .none),(.val (.int .i64 (wrap i64 (c+(1:Int))))),(.val (.int .i64 (wrap i64 (g+(1:Int)))))]),(.cells [(.val (.int .i64 (p))),(.val (.int .u32 (s))),(.val (.int .u32 (d))),(.val (.int .i64 (sp))),(.val (.int .i64 (dp)))]),(.cells [(.val (.int .i64 0)),(.val (.int .u32 0)),(.val (.int .u32 0)),(.val (.int .i64 0)),(.val (.int .i64 0)),(.val (.int .i64 0)),(.val (.int .i64 0))]),(.cells [(.val (.int .i64 (p'))),(.val (.int .u32 (s'))),(.val (.int .u32 (d'))),(.val (.int .i64 (sp'))),(.val (.int .i64 (dp'))),(.val (.int .i64 (b'))),(.val (.int .i64 (l')))])],[((length M),(7,false))]⟩∧
 (((@Eq (Option TV) (.some (.agg [(.val (.int .i64 (p))),(.val (.int .u32 (s))),(.val (.int .u32 (d))),(.val (.int .i64 (sp))),(.val (.int .i64 (dp)))])) (.some (.agg [(.val (.int .i64 (p))),(.val (.int .u32 (s))),(.val (.int .u32 (d))),(.val (.int .i64 (sp))),(.val (.int .i64 (dp)))])))∧
 ((@Eq (Option TV) (.some (.vec 7 (L1 (0:Int)) .none)) (.some (.vec 7 (L1 (0:Int)) .none)))∧
 True))∧
 (aN prog (λ_=>.none) 0 ⟨[(.cells [(.val (.int .i64 20)),(.val (.int .i64 100)),(.val (.int .i64 0)),(.vec 7 (L1 (0:Int)) .none),(.val (.int .i64 (wrap i64 (c+(1:Int))))),(.val (.int .i64 (wrap i64 (g+(1:Int)))))]),(.cells [(.val (.int .i64 (p))),(.val (.int .u32 (s))),(.val (.int .u32 (d))),(.val (.int .i64 (sp))),(.val (.int .i64 (dp)))]),(.cells [(.val (.int .i64 0)),(.val (.int .u32 0)),(.val (.int .u32 0)),(.val (.int .i64 0)),(.val (.int .i64 0)),(.val (.int .i64 0)),(.val (.int .i64 0))]),(.cells [(.val (.int .i64 (p'))),(.val (.int .u32 (s'))),(.val (.int .u32 (d'))),(.val (.int .i64 (sp'))),(.val (.int .i64 (dp'))),(.val (.int .i64 (b'))),(.val (.int .i64 (l')))])],[((length M),(7,false))]⟩ (.call ⟨(.builtin .append),#[(.tmp 62),(.tmp 67)],#[127,127]⟩) [(62,(.vec 7 (M) (.tail 0 (length M)))),(67,(.vec 7 [[(.val (.int .i64 (p))),(.val (.int .u32 (s))),(.val (.int .u32 (d))),(.val (.int .i64 (sp))),(.val (.int .i64 (dp))),(.val (.int .i64 (b))),(.val (.int .i64 0))]] .full))] (.vec 7 (M++ [iU (bV p s d sp dp) b (0:Int)]) (.tail 0 (length M+(1:Nat)))) ⟨[(.cells [(.val (.int .i64 20)),(.val (.int .i64 100)),(.val (.int .i64 0)),(.vec 7 (L1 (0:Int)) .none),(.val (.int .i64 (wrap i64 (c+(1:Int))))),(.val (.int .i64 (wrap i64 (g+(1:Int)))))]),(.cells [(.val (.int .i64 (p))),(.val (.int .u32 (s))),(.val (.int .u32 (d))),(.val (.int .i64 (sp))),(.val (.int .i64 (dp)))]),(.cells [(.val (.int .i64 0)),(.val (.int .u32 0)),(.val (.int .u32 0)),(.val (.int .i64 0)),(.val (.int .i64 0)),(.val (.int .i64 0)),(.val (.int .i64 0))]),(.cells [(.val (.int .i64 (p'))),(.val (.int .u32 (s'))),(.val (.int .u32 (d'))),(.val (.int .i64 (sp'))),(.val (.int .i64 (dp'))),(.val (.int .i64 (b'))),(.val (.int .i64 (l')))])],[((length M+(1:Nat)),(7,false))]⟩∧
 Q (.tup [(.agg [(.val (.int .i64 (p'))),(.val (.int .u32 (s'))),(.val (.int .u32 (d'))),(.val (.int .i64 (sp'))),(.val (.int .i64 (dp'))),(.val (.int .i64 (b'))),(.val (.int .i64 (l')))]),(.val (.bool true))]) ⟨[(.cells [(.val (.int .i64 20)),(.val (.int .i64 100)),(.val (.int .i64 0)),(.vec 7 (M++ [iU (bV p s d sp dp) b (0:Int)]) (.tail 0 (length M+(1:Nat)))),(.val (.int .i64 (wrap i64 (c+(1:Int))))),(.val (.int .i64 (wrap i64 (g+(1:Int)))))]),(.cells [(.val (.int .i64 (p))),(.val (.int .u32 (s))),(.val (.int .u32 (d))),(.val (.int .i64 (sp))),(.val (.int .i64 (dp)))]),(.cells [(.val (.int .i64 (p'))),(.val (.int .u32 (s'))),(.val (.int .u32 (d'))),(.val (.int .i64 (sp'))),(.val (.int .i64 (dp'))),(.val (.int .i64 (b'))),(.val (.int .i64 (l')))]),(.cells [(.val (.int .i64 (p'))),(.val (.int .u32 (s'))),(.val (.int .u32 (d'))),(.val (.int .i64 (sp'))),(.val (.int .i64 (dp'))),(.val (.int .i64 (b'))),(.val (.int .i64 (l')))])],[((length M+(1:Nat)),(7,false))]⟩)))))
 else (aN prog (λ_=>.none) 0 ⟨[(.cells [(.val (.int .i64 20)),(.val (.int .i64 100)),(.val (.int .i64 0)),(.vec 7 (L) .none),(.val (.int .i64 (wrap i64 (c+(1:Int))))),(.val (.int .i64 (g)))]),(.cells [(.val (.int .i64 (p))),(.val (.int .u32 (s))),(.val (.int .u32 (d))),(.val (.int .i64 (sp))),(.val (.int .i64 (dp)))]),(.cells [(.val (.int .i64 0)),(.val (.int .u32 0)),(.val (.int .u32 0)),(.val (.int .i64 0)),(.val (.int .i64 0)),(.val (.int .i64 0)),(.val (.int .i64 0))]),(.cells [(.val (.int .i64 0)),(.val (.int .u32 0)),(.val (.int .u32 0)),(.val (.int .i64 0)),(.val (.int .i64 0)),(.val (.int .i64 0)),(.val (.int .i64 0))])],[]⟩ (.call ⟨(.builtin .append),#[(.tmp 57),(.tmp 61)],#[127,127]⟩) [(57,(.vec 7 [] .full)),(61,(.vec 7 (L) .none))] (.vec 7 (M) (.tail 0 (length M))) ⟨[(.cells [(.val (.int .i64 20)),(.val (.int .i64 100)),(.val (.int .i64 0)),(.vec 7 (L) .none),(.val (.int .i64 (wrap i64 (c+(1:Int))))),(.val (.int .i64 (g)))]),(.cells [(.val (.int .i64 (p))),(.val (.int .u32 (s))),(.val (.int .u32 (d))),(.val (.int .i64 (sp))),(.val (.int .i64 (dp)))]),(.cells [(.val (.int .i64 0)),(.val (.int .u32 0)),(.val (.int .u32 0)),(.val (.int .i64 0)),(.val (.int .i64 0)),(.val (.int .i64 0)),(.val (.int .i64 0))]),(.cells [(.val (.int .i64 0)),(.val (.int .u32 0)),(.val (.int .u32 0)),(.val (.int .i64 0)),(.val (.int .i64 0)),(.val (.int .i64 0)),(.val (.int .i64 0))])],[((length M),(7,false))]⟩∧
 (((@Eq (Option TV) (.some (.agg [(.val (.int .i64 (p))),(.val (.int .u32 (s))),(.val (.int .u32 (d))),(.val (.int .i64 (sp))),(.val (.int .i64 (dp)))])) (.some (.agg [(.val (.int .i64 (p))),(.val (.int .u32 (s))),(.val (.int .u32 (d))),(.val (.int .i64 (sp))),(.val (.int .i64 (dp)))])))∧
 ((@Eq (Option TV) (.some (.vec 7 (L) .none)) (.some (.vec 7 (L) .none)))∧
 True))∧
 (aN prog (λ_=>.none) 0 ⟨[(.cells [(.val (.int .i64 20)),(.val (.int .i64 100)),(.val (.int .i64 0)),(.vec 7 (L) .none),(.val (.int .i64 (wrap i64 (c+(1:Int))))),(.val (.int .i64 (g)))]),(.cells [(.val (.int .i64 (p))),(.val (.int .u32 (s))),(.val (.int .u32 (d))),(.val (.int .i64 (sp))),(.val (.int .i64 (dp)))]),(.cells [(.val (.int .i64 0)),(.val (.int .u32 0)),(.val (.int .u32 0)),(.val (.int .i64 0)),(.val (.int .i64 0)),(.val (.int .i64 0)),(.val (.int .i64 0))]),(.cells [(.val (.int .i64 0)),(.val (.int .u32 0)),(.val (.int .u32 0)),(.val (.int .i64 0)),(.val (.int .i64 0)),(.val (.int .i64 0)),(.val (.int .i64 0))])],[((length M),(7,false))]⟩ (.call ⟨(.builtin .append),#[(.tmp 62),(.tmp 67)],#[127,127]⟩) [(62,(.vec 7 (M) (.tail 0 (length M)))),(67,(.vec 7 [[(.val (.int .i64 (p))),(.val (.int .u32 (s))),(.val (.int .u32 (d))),(.val (.int .i64 (sp))),(.val (.int .i64 (dp))),(.val (.int .i64 (b))),(.val (.int .i64 0))]] .full))] (.vec 7 (M++ [iU (bV p s d sp dp) b (0:Int)]) (.tail 0 (length M+(1:Nat)))) ⟨[(.cells [(.val (.int .i64 20)),(.val (.int .i64 100)),(.val (.int .i64 0)),(.vec 7 (L) .none),(.val (.int .i64 (wrap i64 (c+(1:Int))))),(.val (.int .i64 (g)))]),(.cells [(.val (.int .i64 (p))),(.val (.int .u32 (s))),(.val (.int .u32 (d))),(.val (.int .i64 (sp))),(.val (.int .i64 (dp)))]),(.cells [(.val (.int .i64 0)),(.val (.int .u32 0)),(.val (.int .u32 0)),(.val (.int .i64 0)),(.val (.int .i64 0)),(.val (.int .i64 0)),(.val (.int .i64 0))]),(.cells [(.val (.int .i64 0)),(.val (.int .u32 0)),(.val (.int .u32 0)),(.val (.int .i64 0)),(.val (.int .i64 0)),(.val (.int .i64 0)),(.val (.int .i64 0))])],[((length M+(1:Nat)),(7,false))]⟩∧
 Q (.tup [(.agg [(.val (.int .i64 0)),(.val (.int .u32 0)),(.val (.int .u32 0)),(.val (.int .i64 0)),(.val (.int .i64 0)),(.val (.int .i64 0)),(.val (.int .i64 0))]),(.val (.bool false))]) ⟨[(.cells [(.val (.int .i64 20)),(.val (.int .i64 100)),(.val (.int .i64 0)),(.vec 7 (M++ [iU (bV p s d sp dp) b (0:Int)]) (.tail 0 (length M+(1:Nat)))),(.val (.int .i64 (wrap i64 (c+(1:Int))))),(.val (.int .i64 (g)))]),(.cells [(.val (.int .i64 (p))),(.val (.int .u32 (s))),(.val (.int .u32 (d))),(.val (.int .i64 (sp))),(.val (.int .i64 (dp)))]),(.cells [(.val (.int .i64 0)),(.val (.int .u32 0)),(.val (.int .u32 0)),(.val (.int .i64 0)),(.val (.int .i64 0)),(.val (.int .i64 0)),(.val (.int .i64 0))]),(.cells [(.val (.int .i64 0)),(.val (.int .u32 0)),(.val (.int .u32 0)),(.val (.int .i64 0)),(.val (.int .i64 0)),(.val (.int .i64 0)),(.val (.int .i64 0))])],[((length M+(1:Nat)),(7,false))]⟩)))))):=by kernel_rfl
section
variable {P:Program}{G:aC}{g:Gh}{T:VT}{w:World}
theorem RW.objLeAt (r:RW g T w){i:Nat}{o o':VO}(hi:T.objs[i]?=some o)(hl:o.live=true)(_hl':o'.live=true)(ho:∀b,g.obj i=some b→OR g w b o→OR g w b o'):RW g {T with objs:=T.objs.set i o' } w:=by
 have hil:i<T.objs.length:=(List.getElem?_eq_some_iff.1 hi).1
 have at':∀(j:Nat) oj,(T.objs.set i o')[j]?=some oj→oj.live=true→∃o2,T.objs[j]?=some o2∧o2.live=true∧∀b,g.obj j=some b→OR g w b o2→OR g w b oj:=λj oj h hlj=>by
  rw [getElem?_set] at h
  split at h
  ·rename_i hij;subst hij
   injection h with h;subst h
   exact ⟨o,hi,hl,ho⟩
  ·exact ⟨oj,h,hlj,λ_ _ h=>h⟩
 exact {
  obj:=λid oj h hlj=>by
   obtain ⟨o2,h1,h2,h3⟩:=at' id oj h hlj
   obtain ⟨b,h4,h5,h6⟩:=r.obj id o2 h1 h2
   exact ⟨b,h4,h3 b h4 h5,h6⟩
  inj:=λi j oi oj b hi li hj lj=>by
   obtain ⟨o2,h1,h2,_⟩:=at' i oi hi li
   obtain ⟨o3,h3,h4,_⟩:=at' j oj hj lj
   exact r.inj i j o2 o3 b h1 h2 h3 h4
  out:=λid h=>r.out id (by simpa using h)
  st:=r.st
  fr:=r.fr
  tl:=r.tl
  tout:=r.tout
  tinj:=r.tinj
  tobj:=λi oi b k x hi li=>by
   obtain ⟨o2,h1,h2,_⟩:=at' i oi hi li
   exact r.tobj i o2 b k x h1 h2
  own:=r.own
  own0:=r.own0
  tlo:=r.tlo}
theorem RW.objLe (r:RW g T w){i:Nat}{o o':VO}(hi:T.objs[i]?=some o)(hl:o.live=true)(hl':o'.live=true)(ho:∀b,OR g w b o→OR g w b o'):RW g {T with objs:=T.objs.set i o' } w:=r.objLeAt hi hl hl' λb _ h=>ho b h
theorem Iq {cs cs':List TV}{us:List Value}(hl:cs'.length=cs.length)(h:∀(j:Nat) x x' u,cs[j]?=some x→cs'[j]?=some x'→VR g w x u→VR g w x' u)(hv:VRs g w cs us):VRs g w cs' us:=
 ⟨by rw [hl];exact hv.1,λj x' u hx hu=>by
  have hj:=(List.getElem?_eq_some_iff.1 hx).1
  exact h j _ x' u (getElem?_eq_getElem (by omega)) hx (hv.2 j _ u (getElem?_eq_getElem (by omega)) hu)⟩
theorem A4 {size:Nat}{u:Value}(h:VR g w (.val (.slice none 0 0)) u):VR g w (.vec size [] .none) u:=by
 rw [h.val_inv];exact .nil trivial
theorem VCx.freezeCell {f:FuncId}{xs:List TV}{T:VT}{Q:TV→VT→Prop}{i size:Nat}{es:List (List TV)}(h:VCx P G 0 f xs T λx T'=>∃id off n,T'.objs[i]?=some (.cells [.row size id off n])∧ci T' size (.row size id off n)=some es∧Q x {(T'.kill id) with objs:=(T'.kill id).objs.set i (.cells [.vec size es .none])}):
  VCx P G 0 f xs T Q:=by
 intro g w us rw0 hG hx
 refine Calls.mono (h g w us rw0 hG hx) ?_
 rintro e w' ⟨v,x,g',T',he,⟨id,off,n,h1,h2,hq⟩,e',r',hv,hfx⟩
 obtain ⟨b,h3,⟨vs,t,h4,h5,h6⟩,h7⟩:=r'.obj i _ h1 rfl
 obtain ⟨u,hu,hvu⟩:=h5.at (j:=0) rfl
 obtain ⟨g2,e2,r2,v2⟩:=nC r' h2 hvu
 have hne:id≠i:=by
  rintro rfl
  simp only [ci,h1] at h2
  cases h2
 have hi2:(T'.kill id).objs[i]?=some (.cells [.row size id off n]):=by
  simp only [VT.kill,getElem?_set]
  rw [if_neg hne];exact h1
 have hus:vs= [u]:=by
  match vs,h5.1,hu with
  |[a],_,hu=>simp at hu;rw [hu]
 have hin:∀b',g2.obj i=some b'→b'=b:=λb' hb'=>by
  have:=e2.obj i b h3
  rw [this] at hb';injection hb' with hb';exact hb'.symm
 have r3:RW g2 {(T'.kill id) with objs:=(T'.kill id).objs.set i (.cells [.vec size es .none])} w':=by
  --the object's block is known:its cell is u
  have key:∀b',g2.obj i=some b'→OR g2 w' b' (.cells [.row size id off n])→OR g2 w' b' (.cells [.vec size es .none]):=λb' hb' ⟨us',t',k1,k2,k3⟩=>by
   rw [hin b' hb',h4] at k1
   injection k1 with k1;injection k1 with k1
   have:us'=vs:=by have:=congrArg toList k1;simpa using this.symm
   subst this
   refine ⟨us',t',by rw [hin b' hb',h4,←k1];simp_all,?_,k3⟩
   rw [hus]
   exact VRs.cons v2 (VRs.nil _ _)
  exact r2.objLeAt hi2 rfl rfl key
 refine ⟨v,x,g2,_,he,hq,e'.trans e2,r3,hv.mono e2,⟨?_,λi hi=>absurd hi (not_lt_zero i),λi o b hi=>absurd hi (not_lt_zero i)⟩⟩
 have:=hfx.len
 simp only [VT.kill,List.length_set];exact this
end
section
variable {P:Program}{G:aC}{g:Gh}{T:VT}{w:World}
theorem VWx.nilAt {c:Code}{σ:List TV}{D:List Nat}{i j size:Nat}{cs:List TV}{Q:KX}(hi:T.objs[i]?=some (.cells cs))(hj:cs[j]?=some (.val (.slice none 0 0)))(h:VWx P G none 0 c σ {T with objs:=T.objs.set i (.cells (cs.set j (.vec size [] .none)))} D Q):VWx P G none 0 c σ T D Q:=by
 intro r g w a rw0 hG hσ hd hD hr
 have r':=rw0.objLe hi rfl (o':=.cells (cs.set j (.vec size [] .none))) rfl λb ⟨us,t,h1,h2,h3⟩=>⟨us,t,h1,Iq (by simp) (λk x x' u hx hx' hv=>by
  rw [getElem?_set] at hx'
  split at hx'
  ·rename_i hjk;subst hjk
   rw [hj] at hx;injection hx with hx;subst hx
   rw [if_pos (List.getElem?_eq_some_iff.1 hj).1] at hx'
   injection hx' with hx';subst hx'
   exact A4 hv
  ·rw [hx] at hx';injection hx' with hx';subst hx';exact hv) h2,h3⟩
 refine wpIn_mono (h r g w a r' hG hσ hd hD hr) ?_
 rintro e a' w' ⟨g',σ',T',D',hq,e',r2,hσ',hd',hD',hfx⟩
 refine ⟨g',σ',T',D',hq,e',r2,hσ',hd',hD',⟨?_,λi hi=>absurd hi (not_lt_zero i),λi o b hi=>absurd hi (not_lt_zero i)⟩⟩
 have:=hfx.len
 simpa using this
theorem VCx.freezeCellAt {f:FuncId}{xs:List TV}{T:VT}{Q:TV→VT→Prop}{i j size:Nat}{es:List (List TV)}(h:VCx P G 0 f xs T λx T'=>∃id off n cs,T'.objs[i]?=some (.cells cs)∧cs[j]?=some (.row size id off n)∧ci T' size (.row size id off n)=some es∧Q x {(T'.kill id) with objs:=(T'.kill id).objs.set i (.cells (cs.set j (.vec size es .none)))}):
  VCx P G 0 f xs T Q:=by
 intro g w us rw0 hG hx
 refine Calls.mono (h g w us rw0 hG hx) ?_
 rintro e w' ⟨v,x,g',T',he,⟨id,off,n,cs,h1,hj,h2,hq⟩,e',r',hv,hfx⟩
 obtain ⟨b,h3,⟨vs,t,h4,h5,h6⟩,h7⟩:=r'.obj i _ h1 rfl
 obtain ⟨u,hu,hvu⟩:=h5.at hj
 obtain ⟨g2,e2,r2,v2⟩:=nC r' h2 hvu
 have hne:id≠i:=by
  rintro rfl
  simp only [ci,h1] at h2
  cases h2
 have hi2:(T'.kill id).objs[i]?=some (.cells cs):=by
  simp only [VT.kill,getElem?_set]
  rw [if_neg hne];exact h1
 have hin:∀b',g2.obj i=some b'→b'=b:=λb' hb'=>by
  have:=e2.obj i b h3
  rw [this] at hb';injection hb' with hb';exact hb'.symm
 have r3:RW g2 {(T'.kill id) with objs:=(T'.kill id).objs.set i (.cells (cs.set j (.vec size es .none)))} w':=by
  have key:∀b',g2.obj i=some b'→OR g2 w' b' (.cells cs)→OR g2 w' b' (.cells (cs.set j (.vec size es .none))):=λb' hb' ⟨us',t',k1,k2,k3⟩=>by
   have k1':=k1
   rw [hin b' hb',h4] at k1
   injection k1 with k1;injection k1 with k1
   have hus:us'=vs:=by have:=congrArg toList k1;simpa using this.symm
   refine ⟨us',t',k1',?_,k3⟩
   have k4:=k2.set j (x:=.vec size es .none) (u:=u) v2
   have:us'.set j u=us':=by
    rw [hus]
    apply ext_getElem?
    intro m
    rw [getElem?_set]
    split
    ·rename_i hm;subst hm
     rw [hu,if_pos (List.getElem?_eq_some_iff.1 hu).1]
    ·rfl
   rw [this] at k4
   exact k4
  exact r2.objLeAt hi2 rfl rfl key
 refine ⟨v,x,g2,_,he,hq,e'.trans e2,r3,hv.mono e2,⟨?_,λi hi=>absurd hi (not_lt_zero i),λi o b hi=>absurd hi (not_lt_zero i)⟩⟩
 have:=hfx.len
 simp only [VT.kill,List.length_set];exact this
end
section
variable {P:Program}{G:aC}
theorem qQ {ro:Nat}{T:VT}{t:TypeId}{d:TypeDesc}{a:Operand}{l:List (Nat × TV)}{inf:TypeInfo}{id off:Nat}{cs:List TV}{y:TV}(ht:P.underlying t=some d)(hd:fP d=false)(hi:P.info? t=some inf)
  (ha:au G l a=.ptr id off) (ho:T.objs[id]?=some (.cells cs)) (hy:cs[off]?=some y):aN P G ro T (.load t a) l y T:=by
 refine .mk ?_
 have hlt:=(List.getElem?_eq_some_iff.1 hy).1
 have hc:bJ T (.ptr id off) 1=some [y]:=by
  simp only [bJ,ho]
  rw [if_pos (by omega)]
  congr 1
  rw [take_one,head?_drop,hy];rfl
 have h1:aR P (.load t a) (au G l)=none:=by simp [aR,cM]
 have h2:aH P T (.load t a) (au G l)=some y:=by simp [aH,cL,eJ,ht,hi,hd,ha,hc]
 simp only [eM,h1,h2]
theorem ll {ro:Nat}{T:VT}{t:TypeId}{a x:Operand}{l:List (Nat × TV)}{inf:TypeInfo}{id off:Nat}{cs new:List TV}(hi:P.info? t=some inf)
  (ha:au G l a=.ptr id off) (hx:bd (au G l x)=some new) (ho:T.objs[id]?=some (.cells cs)) (hn:inf.size=new.length) (hle:off+new.length≤cs.length) (hc:new.all dB=true) (hro:ro≤id):
  aN P G ro T (.store t a x) l (.val undef) {T with objs:=T.objs.set id (.cells (aU cs off new))}:=by
 refine .old ?_ ?_
 ·simp [lA,ha,hro]
 ·have h1:iH P T t (au G l a) (au G l x)=some (.val undef,{T with objs:=T.objs.set id (.cells (aU cs off new))}):=by
   simp only [iH,ha,ho,hx,hi]
   rw [if_pos ⟨hn,hle,hc⟩]
  simp [qr,cM,cL,kN,h1]
theorem pv (cs:List TV)(off:Nat)(y:TV)(h:off<cs.length):aU cs off [y]=cs.set off y:=by
 unfold aU
 rw [List.set_eq_take_append_cons_drop,if_pos h]
 simp
end
set_option maxRecDepth 100000
section
open Go.RowKit Go.Maps Go.Sort
theorem lm (f g:Nat→Option Nat):∀l:List Mb,bT f g (l.map aD)=l.map aD
 |[]=>rfl
 |a::l=>by simp only [map_cons,bT,lm f g l];rfl
theorem qh (f g:Nat→Option Nat)(n:Int)(l:List Mb):VO.ren f g (jL n (l.map aD))=jL n (l.map aD):=by
 simp only [jL,VO.ren,ay,TV.ren,lm,Tok.ren]
theorem jf:∃inf:TypeInfo,prog.info? 135=some inf∧inf.size=5∧inf.bytes+1≤1000∧inf.zero=some (.agg #[.int .i64 0,.int .u32 0,.int .i64 0,.bool false,.bool false]):=
 ⟨(prog.info? 135).getD default,by kernel_rfl,by kernel_rfl,Nat.le_of_ble_eq_true (by kernel_rfl),by kernel_rfl⟩
theorem rB {x i:Operand}{l:List (Nat × TV)}{L:List (List TV)}{tok:Tok}{k:IntKind}{z:Int}{e:List TV}(hx:au ae l x=.vec 5 L tok)(hz:au ae l i=.val (.int k z))(h0:0≤z)(he:L[z.toNat]?=some e):
  aI prog ae (.indexAddr 130 x i) l (.elt e):=by
 obtain ⟨inf,i_at,i_size,_,_⟩:=jf
 exact dH (inf:=inf) underlying130 i_at (by rw [i_size];exact hx) hz h0 he
theorem A5 {x i:Operand}{l:List (Nat × TV)}{es:List (List TV)}{tok:Tok}{k:IntKind}{z:Int}{n:Nat}(hx:au ae l x=.vec 5 es tok)(hz:au ae l i=.val (.int k z))(h0:0≤z)(hn:z.toNat=n)(he:n≤es.length):aI prog ae (.slice 130 x none (some i) none) l (.vec 5 (es.take n) .none):=by
 subst hn
 obtain ⟨inf,i1,i2,_,_⟩:=jf
 have h:=rl (inf:=inf) (P:=prog) (G:=ae) (x:=x) (i:=i) (l:=l) (es:=es) (tok:=tok) underlying130 i1 (by rw [i2];exact hx) hz h0 he
 rw [i2] at h
 exact h
theorem A6 {x i:Operand}{l:List (Nat × TV)}{es:List (List TV)}{tok:Tok}{k:IntKind}{z:Int}{n:Nat}(hx:au ae l x=.vec 5 es tok)(hz:au ae l i=.val (.int k z))(h0:0≤z)(hn:z.toNat=n)(he:n≤es.length):aI prog ae (.slice 130 x (some i) none none) l (.vec 5 (es.drop n) tok):=by
 subst hn
 obtain ⟨inf,i1,i2,_,_⟩:=jf
 have h:=rp (inf:=inf) (P:=prog) (G:=ae) (x:=x) (i:=i) (l:=l) (es:=es) (tok:=tok) underlying130 i1 (by rw [i2];exact hx) hz h0 he
 rw [i2] at h
 exact h
theorem rC {T T1:VT}{s x:Operand}{l:List (Nat × TV)}{es es2:List (List TV)}{k n:Nat}{bn:Bool}(hs:ct T 5 (au ae l s)=some (es,k,n,bn,T1))(hx:gv 5 (au ae l x)=some es2)(hb:es.length+es2.length≤3000):
    aN prog ae 0 T (.call ⟨.builtin .append,#[s,x],#[130,130]⟩) l (.vec 5 (es++es2) (.tail k (n+es2.length))) {T1 with tails:=T1.tails.set k (n+es2.length,5,bn)}:=by
  obtain ⟨inf,i1,i2,i3,i4⟩:=jf
  have h:=iw (inf:=inf) (P:=prog) (G:=ae) (ro:=0) (T:=T) (T1:=T1) (t:=130) (tx:=130) (s:=s) (x:=x) (l:=l) (es:=es) (es2:=es2) (k:=k) (n:=n) (bn:=bn) underlying130 i1 i4 (by rw [i2];rfl) (by rw [i2];decide) (by kernel_rfl) (by rw [i2];exact hs) (by rw [i2];exact hx)
    (by have h1:=i3
        have h2:=Nat.mul_le_mul hb h1
        omega)
  rw [i2] at h
  exact h
def mY (L:List Mb)(i:Int):Option Nat:=L.findIdx? λr=>r.1.1==i
def fk (L:List Mb)(i:Int):Int:=match mY L i with
 |some k=>k
 |none=>-1
theorem EF {L:List Mb}{i:Int}{k:Nat}(h:mY L i=some k):k<L.length:=(List.findIdx?_eq_some_iff_getElem.1 h).1
theorem Ir {L:List Mb}{i:Int}{j:Nat}{r:Mb}(h:L[j]?=some r)(hr:r.1.1=i)(hj:∀k r',k<j→L[k]?=some r'→r'.1.1≠i):mY L i=some j:=by
 obtain ⟨hjl,h1⟩:=List.getElem?_eq_some_iff.1 h
 refine List.findIdx?_eq_some_iff_getElem.2 ⟨hjl,by simp [h1,hr],λk hk=> ?_⟩
 have:=hj k _ hk (getElem?_eq_getElem (by omega))
 simpa using this
theorem GL {L:List Mb}{i:Int}(hj:∀k r',k<L.length→L[k]?=some r'→r'.1.1≠i):mY L i=none:=by
 refine List.findIdx?_eq_none_iff.2 λr hr=> ?_
 obtain ⟨k,hk,rfl⟩:=List.getElem_of_mem hr
 simpa using hj k _ hk (getElem?_eq_getElem hk)
section
variable (n:Int)
theorem jg (L:List Mb)(l:List VO):VT.keep (b8 n (L.map aD) l) 1 0=b8 n (L.map aD) []:=by
 have e1:=qh (ai 1) (ai 0) n L
 simp only [VT.keep,b8,take_succ_cons,take_zero,map_cons,map_nil,e1]
theorem It (L:List Mb)(hl:L.length≤1000)(i:Int):VCx prog ae 0 lh [.ptr 0 0,.val (.int .i64 i)] (b8 n (L.map aD) []) λx T'=>x=.val (.int .i64 (fk L i))∧T'=b8 n (L.map aD) []:=by
 have hloop:dS prog ae (KR n (L.map aD) i (fk L i) (mY L i).isSome (av prog lh 0)):=cn λp hp=>by
  obtain rfl:=mem_singleton.1 hp
  refine dy λK hK=> ?_
  let sl:Nat→List TV:=λj=>u9 (L.map aD) i 0 j
  let Post:Exit→List TV→VT→Prop:=λe vs T=>(∃k:Nat,∃cs,mY L i=some k∧e=.ret∧vs=u9 (L.map aD) i k k∧T=b8 n (L.map aD) [.cells cs])∨(mY L i=none∧e=.normal∧vs=sl L.length∧T=b8 n (L.map aD) [])
  refine fc (f:=lh) (id:=0) (by kernel_rfl) 24 zi (λj=>L.length-j) sl (λ_=>b8 n (L.map aD) []) (λj=>j≤L.length∧∀k r',k<j→L[k]?=some r'→r'.1.1≠i) 1 0 (λ_ _=>⟨le_refl _,le_refl _⟩)
   Post (λj hj=> ?_) 0 ⟨zero_le _,λk _ hk=>absurd hk (not_lt_zero k)⟩ K (λe vs T hq=> ?_)
  ·obtain ⟨hj,hne⟩:=hj
   by_cases hlt:j<L.length
   ·have hs:L[j]?=some L[j]:=getElem?_eq_getElem hlt
    generalize L[j]=r at hs
    have hw:=fL j (by omega)
    refine cj ah ag aw ak (CG n (L.map aD) i 0 r.1.1 r.1.2.1 r.1.2.2 r.2.1 r.2.2 j _) ?_
    refine aL (decide_eq_true (by rw [length_map];omega)) ⟨rB rfl rfl (natCast_nonneg _) (by simp only [toNat_natCast];rw [getElem?_map,hs];rfl),?_⟩
    by_cases he:r.1.1=i
    ·refine aL (by rw [qL];exact decide_eq_true he) ⟨rfl,rfl,.inl ⟨j,_,Ir hs he hne,rfl,rfl,rfl⟩⟩
    ·refine az (by rw [qL];exact decide_eq_false he) ⟨rfl,rfl,j+1,⟨hlt,λk r' hk hr=> ?_⟩,by simp only;omega,.inr ⟨jg n L _,?_⟩⟩
     ·rcases lt_or_ge k j with h | h
      ·exact hne k r' h hr
      ·obtain rfl:k=j:=by omega
       rw [hs] at hr;injection hr with hr;subst hr;exact he
     ·simp only [ay,TV.ren,lm,Tok.ren]
      simp only [sl,u9,hw]
   ·obtain rfl:j=L.length:=by omega
    refine cj ah ag aw ak (CG n (L.map aD) i 0 0 0 0 false false L.length _) ?_
    exact az (decide_eq_false (by rw [length_map];omega)) ⟨rfl,rfl,.inr ⟨GL hne,rfl,rfl,rfl⟩⟩
  ·rcases hq with ⟨k,cs,h1,rfl,rfl,rfl⟩ | ⟨h1,rfl,rfl,rfl⟩
   ·simp only [h1,isSome_some,cond_true,fk] at hK
    exact hK cs
   ·simp only [h1,isSome_none,cond_false] at hK
    have e1:sl L.length=u9 (L.map aD) i 0 (L.map aD).length:=by simp only [sl,length_map]
    rw [e1]
    exact hK
 refine VCx.keepQ 1 0 (le_refl _) (le_refl _) (an ah ag aw hloop (J5 n (L.map aD) i (fk L i) (mY L i).isSome _) ?_)
 refine ⟨rfl,⟨rfl,rfl,rfl,trivial,rfl,rfl,rfl⟩,?_⟩
 cases h:mY L i with
 |none=>exact az rfl ⟨by simp only [fk,h];rfl,jg n L _⟩
 |some k=>exact aL rfl λcs=>⟨by simp only [fk,h];rfl,jg n L _⟩
theorem A7 {f:FuncId}{ys0 ys1:List TV}{L:List Mb}{k:Nat}(hy:ay (am [k]) (am []) ys0=ys1){R:TV→List Mb→Prop}(hR:∀x L',R x L'→∀f g,x.ren f g=x)
  (hv:VCx prog ae 0 f ys1 (b8 n (L.map aD) []) λx T'=>∃L',R x L'∧T'=b8 n (L'.map aD) []) {T:VT} (ho:T.objs[k]?=some (jL n (L.map aD))):
  VCx prog ae 0 f ys0 T λx T'=>∃L',R x L'∧T'={T with objs:=T.objs.set k (jL n (L'.map aD))}:=by
 have hg:T.give [k] []=b8 n (L.map aD) []:=by
  have:=qh (am [k]) (am []) n L
  simp only [VT.give,map_cons,map_nil,ho,getD_some,this,b8]
 refine (VCx.lift (xs:=ys1) [k] [] bc (by simp) List.nodup_nil (λj hj=> ?_) (by simp) (λ_ _=>zero_le _) hy (by rw [hg];exact hv) (λx T' hq=> ?_)).mono ?_
 ·obtain rfl:=mem_singleton.1 hj;exact ⟨_,ho,rfl⟩
 ·obtain ⟨L',_,rfl⟩:=hq;exact ⟨le_refl 1,zero_le _⟩
 ·rintro x T' ⟨y,T2,⟨L',hr,rfl⟩,rfl,rfl⟩
  refine ⟨L',by rw [hR _ _ hr];exact hr,?_⟩
  have:=qh (aq T.objs.length [k]) (aq T.tails.length []) n L'
  simp only [VT.back,b8,map_cons,map_nil,this,aS,List.append_nil]
theorem xJ (L:List Mb)(hl:L.length≤1000)(i:Int):∀ro ys T K,xH n (L.map aD) i (fk L i) ro ys T K→VCx prog ae ro lh ys T K:=by
 rintro ro ys T K ⟨⟨rfl,rfl,ho⟩,hk⟩
 refine (A7 n (ys1:= [.ptr 0 0,.val (.int .i64 i)]) (k:=0) rfl (R:=λx L'=>x=.val (.int .i64 (fk L i))∧L'=L) (λx L' h _ _=>by rw [h.1];rfl) ((It n L hl i).mono ?_) ho).mono ?_
 ·rintro x T' ⟨rfl,rfl⟩;exact ⟨L,⟨rfl,rfl⟩,rfl⟩
 ·rintro x T' ⟨L',⟨rfl,rfl⟩,rfl⟩
  rw [fe ho];exact hk
theorem zl {L:List Mb}{i:Int}:(mY L i=none∧fk L i=-1)∨∃k,mY L i=some k∧fk L i=k∧k<L.length:=by
 unfold fk
 cases h:mY L i with
 |none=>exact .inl ⟨rfl,rfl⟩
 |some k=>exact .inr ⟨k,rfl,rfl,EF h⟩
def gV (L:List Mb)(i:Int):Mb:=match mY L i with
 |some k=>L[k]?.getD E9
 |none=>E9
theorem Iu (L:List Mb)(hl:L.length≤1000)(i:Int):VCx prog ae 0 xE [.ptr 0 0,.val (.int .i64 i)] (b8 n (L.map aD) []) λx T'=>x=.agg (aD (gV L i))∧T'=b8 n (L.map aD) []:=by
 have hC:aT prog ae (aE [(lh,xH n (L.map aD) i (fk L i))]):=aJ λp hp=>by obtain rfl:=mem_singleton.1 hp;exact xJ n L hl i
 rcases zl (L:=L) (i:=i) with ⟨hn,hz⟩ | ⟨k,hn,hz,hk⟩
 ·refine VCx.keepQ 1 0 (le_refl _) (le_refl _) (an ah ag hC ak (Fr n (L.map aD) i (fk L i) 0 0 0 false false _) ?_)
  exact ⟨⟨rfl,rfl,rfl⟩,aL (decide_eq_true (by omega)) ⟨by unfold gV;rw [hn];rfl,jg n L _⟩⟩
 ·have hs:L[k]?=some L[k]:=getElem?_eq_getElem hk
  generalize L[k]=r at hs
  refine VCx.keepQ 1 0 (le_refl _) (le_refl _) (an ah ag hC ak (Fr n (L.map aD) i (fk L i) r.1.1 r.1.2.1 r.1.2.2 r.2.1 r.2.2 _) ?_)
  exact ⟨⟨rfl,rfl,rfl⟩,az (decide_eq_false (by omega)) ⟨rB rfl rfl (by omega) (by rw [hz,toNat_natCast,getElem?_map,hs];rfl),by unfold gV;rw [hn];simp only [hs];rfl,jg n L _⟩⟩
theorem zm (l:List Mb):∀e∈l.map aD,e.length=5:=λe he=>by obtain ⟨s,_,rfl⟩:=mem_map.1 he;rfl
theorem CJ (x:Mb):∀(m:List Mb) (k:Nat),k<m.length→aU (m.map aD).flatten (k*5) (aD x)=((m.set k x).map aD).flatten
 |[],k,h=>by simp at h
 |b::l,0,h=>rfl
 |b::l,k+1,h=>by
  have ih:=CJ x l k (by simpa using h)
  have e1:(k+1)*5=k*5+5:=by omega
  have h1:∀(l:List TV) (o:Nat),aU (aD b++l) (o+5) (aD x)=aD b++aU l o (aD x):=λl o=>by
   have e4:o+5+(aD x).length=(o+(aD x).length)+5:=Nat.add_right_comm _ _ _
   simp only [aU,e4]
   simp only [aD]
   first | done | rfl
  rw [e1,List.set_cons_succ,map_cons,map_cons,flatten_cons,flatten_cons,h1,ih]
theorem Iv (L:List Mb)(hpos:0<L.length)(h:L.length≤16):aN prog ae 0 (b8 n (L.map aD) []) (.call ⟨.builtin .append,#[.tmp 18,.tmp 22],#[130,130]⟩) [(18,.vec 5 [] .full),(22,.vec 5 (L.map aD) .none)] (.row 5 1 0 (L.map aD).length) (b8 n (L.map aD) [.row (L.map aD).flatten]):=by
  obtain ⟨inf,i1,i2,i3,i4⟩:=jf
  match L,hpos,h with
  |b::r,_,h=>
    have a:=sH (inf:=inf) (P:=prog) (G:=ae) (ro:=0) (T:=b8 n ((b::r).map aD) []) (t:=130) (tx:=130) (s:=.tmp 18) (x:=.tmp 22) (l:= [(18,.vec 5 [] .full),(22,.vec 5 ((b::r).map aD) .none)]) (q0:=aD b) (qs:=r.map aD) (tok:=.none)
      underlying130 i1 i4 (by rw [i2];rfl) (by decide) (by kernel_rfl) (by rw [i2];rfl) (by rw [i2];rfl)
      (by have h2:=Nat.mul_le_mul (show (aD b::r.map aD).length≤16 by simpa using h) i3
          omega)
    rw [i2] at a
    exact a
theorem CL {x i:Operand}{n:Nat}{l:List (Nat × TV)}{k:Nat}{z:Int}(hx:au ae l x=.row 5 1 0 n)(hz:au ae l i=.val (.int .i64 z))(hzk:z=k)(h1:k<n):aI prog ae (.indexAddr 130 x i) l (.ptr 1 (k*5)):=by
 subst hzk
 obtain ⟨inf,i1,i2,i3,i4⟩:=jf
 have a:=o4 (inf:=inf) (P:=prog) (G:=ae) (x:=x) (i:=i) (l:=l) (id:=1) (off:=0) (n:=n) (k:=.i64) (z:=(k:Int)) underlying130 i1 (by rw [i2];exact hx) hz (natCast_nonneg _) (by omega)
 rw [i2] at a
 simpa using a
theorem EG {T:VT}{t:TypeId}{d:TypeDesc}{a:Operand}{l:List (Nat × TV)}{inf:TypeInfo}{id off:Nat}{cs:List TV}{y:TV}(ht:prog.underlying t=some d)(hd:fP d=false)(hi:prog.info? t=some inf)
  (ha:au ae l a=.ptr id off) (ho:T.objs[id]?=some (.row cs)) (hy:cs[off]?=some y):cT prog ae T false (.load t a) l y:=by
 refine .mk ?_
 have hlt:=(List.getElem?_eq_some_iff.1 hy).1
 have hc:bJ T (.ptr id off) 1=some [y]:=by
  simp only [bJ,ho]
  rw [if_pos (by omega)]
  congr 1
  rw [take_one,head?_drop,hy];rfl
 simp [iK,aR,cM,aH,cL,eJ,ht,hi,hd,ha,hc]
theorem GM (L:List Mb):(L.map aD).flatten.length=L.length*5:=by
 have:=bp (zm L)
 rwa [length_map] at this
theorem vc:∀(L:List Mb) (k:Nat) (r:Mb),L[k]?=some r→(L.map aD).flatten[k*5+1]?=some (.val (.int .u32 r.1.2.1))
 |[],_,_,h=>by simp at h
 |b::l,0,r,h=>by simp at h;subst h;rfl
 |b::l,k+1,r,h=>by
  have ih:=vc l k r (by simpa using h)
  have e1:(k+1)*5+1=(k*5+1)+5:=by omega
  rw [e1,map_cons,flatten_cons]
  simp only [aD,cons_append,nil_append,List.getElem?_cons_succ]
  exact ih
def j4 (L:List Mb):Prop:=L.length≤16
theorem Iw (L:List Mb)(hl:j4 L)(i w:Int)(u d:Bool):VCx prog ae 0 xF [.ptr 0 0,.val (.int .i64 i),.val (.bool u),.val (.bool d),.val (.int .i64 w)] (b8 n (L.map aD) []) λx T'=>∃L',(j4 L'∧∃e,x=.val (.int .i64 e))∧T'=b8 n (L'.map aD) []:=by
 unfold j4 at hl
 have hC:aT prog ae (aE [(lh,xH n (L.map aD) i (fk L i))]):=aJ λp hp=>by obtain rfl:=mem_singleton.1 hp;exact xJ n L (by omega) i
 rcases zl (L:=L) (i:=i) with ⟨_,hz⟩ | ⟨k,_,hz,hk⟩
 ·refine VCx.keepQ 1 0 (le_refl _) (le_refl _) (an ah ag hC ak (Fs n (L.map aD) i w (fk L i) 0 u d 0 _) ?_)
  exact ⟨⟨rfl,rfl,rfl⟩,aL (decide_eq_true (by omega)) ⟨L,⟨hl,7,rfl⟩,jg n L _⟩⟩
 ·have hs:L[k]?=some L[k]:=getElem?_eq_getElem hk
  generalize L[k]=r at hs
  have hset:=CJ ((i,r.1.2.1,w),u,d) L k hk
  have hfl:=GM L
  have hmul:(k+1)*5≤L.length*5:=Nat.mul_le_mul_right _ hk
  refine VCx.keepQ 1 0 (le_refl _) (le_refl _) (VCx.freezeCellAt (i:=0) (j:=1) (size:=5) (es:=(L.set k ((i,r.1.2.1,w),u,d)).map aD) (an ah ag hC ak (Fs n (L.map aD) i w (fk L i) r.1.2.1 u d k _) ?_))
  refine ⟨⟨rfl,rfl,rfl⟩,az (decide_eq_false (by omega)) ⟨Iv n L (by omega) hl,CL rfl rfl hz (by rw [length_map];exact hk),EG (inf:=(prog.info? 29).getD default) (cs:=(L.map aD).flatten) Tryz.underlying29 rfl (by kernel_rfl) rfl rfl (vc L k r hs),CL rfl rfl hz (by rw [length_map];exact hk),?_,1,0,(L.map aD).length,_,rfl,rfl,?_,?_⟩⟩
  ·obtain ⟨inf,i1,i2,_,_⟩:=jf
   exact k9 (cs:=(L.map aD).flatten) (new:=ei i r.1.2.1 w u d) (off:=k*5) (id:=1) i1 rfl rfl rfl (by rw [i2];rfl) (by rw [hfl];show k*5+5≤_;omega) rfl (zero_le _)
  ·have e5:aU (L.map aD).flatten (k*5) (ei i r.1.2.1 w u d)=((L.set k ((i,r.1.2.1,w),u,d)).map aD).flatten:=hset
   rw [e5]
   have hl2:(L.map aD).length=((L.set k ((i,r.1.2.1,w),u,d)).map aD).length:=by simp
   rw [hl2]
   exact kg rfl (zm _)
  ·refine ⟨L.set k ((i,r.1.2.1,w),u,d),⟨by unfold j4;simpa using hl,0,rfl⟩,?_⟩
   simp only [VT.kill,VT.keep,List.set_cons_succ,List.set_cons_zero,take_succ_cons,take_zero,map_cons,map_nil,VO.ren,ay,TV.ren,lm,Tok.ren]
   rfl
theorem CM (L:List Mb)(hl:L.length≤1000)(i:Int):∀ro ys T K,CD n (L.map aD) i (aD (gV L i)) ro ys T K→VCx prog ae ro xE ys T K:=by
 rintro ro ys T K ⟨⟨rfl,rfl,ho⟩,hk⟩
 refine (A7 n (ys1:= [.ptr 0 0,.val (.int .i64 i)]) (k:=0) rfl (R:=λx L'=>x=.agg (aD (gV L i))∧L'=L) (λx L' h _ _=>by rw [h.1];rfl) ((Iu n L hl i).mono ?_) ho).mono ?_
 ·rintro x T' ⟨rfl,rfl⟩;exact ⟨L,⟨rfl,rfl⟩,rfl⟩
 ·rintro x T' ⟨L',⟨rfl,rfl⟩,rfl⟩
  rw [fe ho];exact hk
def zn (L':List (List TV)):Prop:=∃M:List Mb,j4 M∧L'=M.map aD
theorem CN (L:List Mb)(hl:j4 L)(i w:Int)(u d:Bool):∀ro ys T K,CE n (L.map aD) i w u d zn ro ys T K→VCx prog ae ro xF ys T K:=by
 rintro ro ys T K ⟨⟨rfl,rfl,ho⟩,hk⟩
 refine (A7 n (ys1:= [.ptr 0 0,.val (.int .i64 i),.val (.bool u),.val (.bool d),.val (.int .i64 w)]) (k:=0) rfl (R:=λx L'=>j4 L'∧∃e,x=.val (.int .i64 e)) (λx L' h _ _=>by obtain ⟨_,e,rfl⟩:=h;rfl) (Iw n L hl i w u d) ho).mono ?_
 rintro x T' ⟨L',⟨h1,e,rfl⟩,rfl⟩
 exact hk e _ ⟨L',h1,rfl⟩
def zo (n:Int):TV→VT→Prop:=λx T'=>∃L',(j4 L'∧∃e,x=.val (.int .i64 e))∧T'=b8 n (L'.map aD) []
theorem tX {n:Int}{L':List (List TV)}{l:List VO}{e:Int}(h:zn L'):zo n (.val (.int .i64 e)) (VT.keep ⟨jL n L'::l,[]⟩ 1 0):=by
 obtain ⟨M,h1,rfl⟩:=h
 exact ⟨M,⟨h1,e,rfl⟩,jg n M _⟩
theorem Ix (L:List Mb)(hl:j4 L)(i:Int)(q:Bool):VCx prog ae 0 CB [.ptr 0 0,.val (.int .i64 i),.val (.bool q)] (b8 n (L.map aD) []) (zo n):=by
 have hC:aT prog ae (aE [(xE,CD n (L.map aD) i (aD (gV L i))),(xF,CE n (L.map aD) i (gV L i).1.2.2 q (gV L i).2.2 zn)]):=aJ λp hp=>by
  simp only [mem_cons,not_mem_nil,or_false] at hp
  rcases hp with rfl | rfl
  ·exact CM n L (by unfold j4 at hl;omega) i
  ·exact CN n L hl i _ _ _
 refine VCx.keepQ 1 0 (le_refl _) (le_refl _) (an ah ag hC ak (J6 n (L.map aD) i (gV L i).1.1 (gV L i).1.2.1 (gV L i).1.2.2 q (gV L i).2.1 (gV L i).2.2 zn _) ?_)
 exact ⟨⟨rfl,rfl,rfl⟩,⟨rfl,rfl,rfl⟩,λe L' h=>tX h⟩
theorem Iy (L:List Mb)(hl:j4 L)(i:Int)(q:Bool):VCx prog ae 0 CC [.ptr 0 0,.val (.int .i64 i),.val (.bool q)] (b8 n (L.map aD) []) (zo n):=by
 have hC:aT prog ae (aE [(xE,CD n (L.map aD) i (aD (gV L i))),(xF,CE n (L.map aD) i (gV L i).1.2.2 (gV L i).2.1 q zn)]):=aJ λp hp=>by
  simp only [mem_cons,not_mem_nil,or_false] at hp
  rcases hp with rfl | rfl
  ·exact CM n L (by unfold j4 at hl;omega) i
  ·exact CN n L hl i _ _ _
 refine VCx.keepQ 1 0 (le_refl _) (le_refl _) (an ah ag hC ak (J7 n (L.map aD) i (gV L i).1.1 (gV L i).1.2.1 (gV L i).1.2.2 q (gV L i).2.1 (gV L i).2.2 zn _) ?_)
 exact ⟨⟨rfl,rfl,rfl⟩,⟨rfl,rfl,rfl⟩,λe L' h=>tX h⟩
def kB:List Mb→Int→Nat
 |[],_=>0
 |a::L,i=>if a.1.1<i then kB L i+1 else 0
theorem vH:∀(L:List Mb) (i:Int),kB L i≤L.length
 |[],_=>le_refl _
 |a::L,i=>by
  have:=vH L i
  unfold kB
  split<;>simp<;>omega
theorem Ft:∀{L:List Mb} {i:Int} {j:Nat} {r:Mb},L[j]?=some r→j≤kB L i→(r.1.1<i ↔ j<kB L i)
 |[],_,_,_,h,_=>by simp at h
 |a::L,i,0,r,h,_=>by
  simp at h;subst h
  unfold kB
  split<;>simp_all
 |a::L,i,j+1,r,h,hj=>by
  unfold kB at hj ⊢
  split at hj
  ·rename_i ha
   rw [if_pos ha]
   have:=Ft (L:=L) (i:=i) (j:=j) (by simpa using h) (by omega)
   rw [this];omega
  ·omega
theorem GN (L:List Mb)(hl:L.length≤1000)(i a c:Int):dS prog ae (KT n (L.map aD) i a c (kB L i) (av prog pu 1)):=cn λp hp=>by
 obtain rfl:=mem_singleton.1 hp
 refine dy λK hK=> ?_
 refine fc (f:=pu) (id:=1) (by kernel_rfl) 88 CF (λj=>L.length-j) (λj:Nat=>zj j) (λ_=>b8 n (L.map aD) [.cells (eV i a c)]) (λj=>j≤kB L i) 2 0 (λ_ _=>⟨le_refl _,le_refl _⟩)
  (λe vs T=>e=.normal∧vs=zj (kB L i)∧T=b8 n (L.map aD) [.cells (eV i a c)]) (λj hj=> ?_) 0 (zero_le _) K (λe vs T hq=> ?_)
 ·have hkl:=vH L i
  by_cases hlt:j<L.length
  ·have hs:L[j]?=some L[j]:=getElem?_eq_getElem hlt
   generalize L[j]=r at hs
   have hw:=fL j (by omega)
   have hat:=Ft hs hj
   refine cj ah ag aw ak (CH n (L.map aD) i a c r.1.1 r.1.2.1 r.1.2.2 r.2.1 r.2.2 j _) ?_
   refine aL (decide_eq_true (by rw [length_map];omega)) ⟨rB rfl rfl (natCast_nonneg _) (by simp only [toNat_natCast];rw [getElem?_map,hs];rfl),?_⟩
   by_cases he:r.1.1<i
   ·exact aL (decide_eq_true he) ⟨rfl,rfl,j+1,hat.1 he,by simp only;omega,.inl ⟨rfl,by simp only [zj,hw]⟩⟩
   ·have:j=kB L i:=by
     have:¬j<kB L i:=λh=>he (hat.2 h)
     omega
    subst this
    exact az (decide_eq_false he) ⟨rfl,rfl,rfl,rfl,rfl⟩
  ·obtain rfl:j=L.length:=by omega
   have:L.length=kB L i:=by omega
   refine cj ah ag aw ak (CH n (L.map aD) i a c 0 0 0 false false L.length _) ?_
   exact az (decide_eq_false (by rw [length_map];omega)) ⟨rfl,rfl,rfl,by rw [←this];rfl,rfl⟩
 ·obtain ⟨rfl,rfl,rfl⟩:=hq
  exact hK
theorem GO (L':List Mb)(tok:Tok)(l:List VO)(tl:List (Nat × Nat × Bool))(ht:tok.ren (ai 1) (ai 0)=.none):VT.keep ⟨.cells [.val (.int .i64 n),.vec 5 (L'.map aD) tok]::l,tl⟩ 1 0=b8 n (L'.map aD) []:=by
 simp only [VT.keep,take_succ_cons,take_zero,map_cons,map_nil,VO.ren,ay,TV.ren,lm,ht,b8,jL]
theorem Iz (L:List Mb)(hl:j4 L)(b:Bk):VCx prog ae 0 pu [.ptr 0 0,.agg (aA b)] (b8 n (L.map aD) []) (zo n):=by
 obtain ⟨i,a,c⟩:=b
 have hl':L.length≤16:=hl
 have hC:aT prog ae (aE [(lh,xH n (L.map aD) i (fk L i))]):=aJ λp hp=>by obtain rfl:=mem_singleton.1 hp;exact xJ n L (by omega) i
 refine VCx.keepQ 1 0 (le_refl _) (le_refl _) (an ah ag hC (GN n L (by omega) i a c) (J8 n (L.map aD) i a c (fk L i) (kB L i) _) ?_)
 have same:∀(e:Int) (l:List VO),zo n (.val (.int .i64 e)) (VT.keep ⟨jL n (L.map aD)::l,[]⟩ 1 0):=λe l=>tX ⟨L,hl,rfl⟩
 have hkl:kB L i≤(L.map aD).length:=by rw [length_map];exact vH L i
 have b1:((L.map aD).take (kB L i)).length≤16:=by rw [length_take,length_map];omega
 have b2:((L.map aD).drop (kB L i)).length≤16:=by rw [length_drop,length_map];omega
 refine aM (λ_=>same _ _) λ_=>aM (λ_=>same _ _) λ_=>aM (λ_=>same _ _) λ_=>aM (λ_=>same _ _) λ_=>aM (λ_=>same _ _) λ_=>⟨⟨rfl,rfl,rfl⟩,aM (λ_=>same _ _) λ_=>aM (λ_=>same _ _) λh16=>⟨rfl,⟨rfl,rfl,rfl,trivial,rfl,rfl,rfl⟩,A5 rfl rfl (natCast_nonneg _) (toNat_natCast _) hkl,A6 rfl rfl (natCast_nonneg _) (toNat_natCast _) hkl,?_,⟨rfl,rfl,rfl,trivial⟩,?_,⟨rfl,rfl,rfl,trivial⟩,?_,?_⟩⟩
 ·have o:=rC (T:=b8 n (L.map aD) [.cells (eV i a c)]) (T1:={b8 n (L.map aD) [.cells (eV i a c)] with tails:= [(0,5,false)]}) (s:=.tmp 67) (x:=.tmp 73) (l:= [(67,.vec 5 [] .full),(73,.vec 5 ((L.map aD).take (kB L i)) .none)]) (es:= []) (es2:=(L.map aD).take (kB L i)) (k:=0) (n:=0) (bn:=false) rfl rfl (by simp only [length_nil];omega)
  simp only [zero_add] at o
  exact o
 ·exact rC (T:={b8 n (L.map aD) [.cells (eV i a c)] with tails:= [(((L.map aD).take (kB L i)).length,5,false)]}) (T1:={b8 n (L.map aD) [.cells (eV i a c)] with tails:= [(((L.map aD).take (kB L i)).length,5,false)]}) (es:=(L.map aD).take (kB L i)) (es2:= [ei i a c false false]) (k:=0) (n:=((L.map aD).take (kB L i)).length) (bn:=false) (by simp [au,dL,ct,b8]) rfl (by simp only [length_cons,length_nil];omega)
 ·exact rC (T:={b8 n (L.map aD) [.cells (eV i a c)] with tails:= [(((L.map aD).take (kB L i)).length+1,5,false)]}) (T1:={b8 n (L.map aD) [.cells (eV i a c)] with tails:= [(((L.map aD).take (kB L i)).length+1,5,false)]}) (es:=(L.map aD).take (kB L i)++ [ei i a c false false]) (es2:=(L.map aD).drop (kB L i)) (k:=0) (n:=((L.map aD).take (kB L i)).length+1) (bn:=false) (by simp [au,dL,ct,b8]) rfl (by simp only [length_append,length_cons,length_nil];omega)
 ·have hm:(L.map aD).take (kB L i)++ [ei i a c false false]++(L.map aD).drop (kB L i)=(L.take (kB L i)++ [((i,a,c),false,false)]++L.drop (kB L i)).map aD:=by
   simp only [map_append,List.map_take,List.map_drop,map_cons,map_nil]
   rfl
  simp at h16
  refine ⟨L.take (kB L i)++ [((i,a,c),false,false)]++L.drop (kB L i),⟨?_,0,rfl⟩,?_⟩
  ·unfold j4
   simp only [length_append,length_take,length_drop,length_cons,length_nil]
   have:=vH L i
   omega
  ·rw [hm]
   exact GO n _ _ _ _ rfl
end
end
set_option maxRecDepth 100000
section
open Go.RowKit Go.Maps Go.Sort
abbrev Fl:=Int × Int × Int × Int × Int
def bo (f:Fl):List TV:=bV f.1 f.2.1 f.2.2.1 f.2.2.2.1 f.2.2.2.2
def IA (f:Fl):Value:=.agg #[.int .i64 f.1,.int .u32 f.2.1,.int .u32 f.2.2.1,.int .i64 f.2.2.2.1,.int .i64 f.2.2.2.2]
abbrev En:=Fl × Int × Int
def aP (e:En):List TV:=iU (bo e.1) e.2.1 e.2.2
def xK (a b:Fl):Bool:=bE eql (aj (IA a) (IA b))
theorem ln (f g:Nat→Option Nat):∀l:List En,bT f g (l.map aP)=l.map aP
 |[]=>rfl
 |a::l=>by simp only [map_cons,bT,ln f g l];rfl
theorem pw (f g:Nat→Option Nat)(w c k:Int)(l:List En):VO.ren f g (uO w (l.map aP) c k)=uO w (l.map aP) c k:=by
 simp only [uO,VO.ren,ay,TV.ren,ln,Tok.ren]
theorem qi:∃inf:TypeInfo,prog.info? 90=some inf∧inf.size=7∧inf.bytes+1≤1000∧inf.zero=some (.agg #[.int .i64 0,.int .u32 0,.int .u32 0,.int .i64 0,.int .i64 0,.int .i64 0,.int .i64 0]):=
 ⟨(prog.info? 90).getD default,by kernel_rfl,by kernel_rfl,Nat.le_of_ble_eq_true (by kernel_rfl),by kernel_rfl⟩
theorem xL {x i:Operand}{l:List (Nat × TV)}{L:List (List TV)}{tok:Tok}{k:IntKind}{z:Int}{e:List TV}(hx:au ae l x=.vec 7 L tok)(hz:au ae l i=.val (.int k z))(h0:0≤z)(he:L[z.toNat]?=some e):
  aI prog ae (.indexAddr 127 x i) l (.elt e):=by
 obtain ⟨inf,i_at,i_size,_,_⟩:=qi
 exact dH (inf:=inf) underlying127 i_at (by rw [i_size];exact hx) hz h0 he
theorem CO {x i:Operand}{l:List (Nat × TV)}{es:List (List TV)}{tok:Tok}{k:IntKind}{z:Int}{n:Nat}(hx:au ae l x=.vec 7 es tok)(hz:au ae l i=.val (.int k z))(h0:0≤z)(hn:z.toNat=n)(he:n≤es.length):aI prog ae (.slice 127 x none (some i) none) l (.vec 7 (es.take n) .none):=by
 subst hn
 obtain ⟨inf,i1,i2,_,_⟩:=qi
 have h:=rl (inf:=inf) (P:=prog) (G:=ae) (x:=x) (i:=i) (l:=l) (es:=es) (tok:=tok) underlying127 i1 (by rw [i2];exact hx) hz h0 he
 rw [i2] at h
 exact h
theorem CP {x i:Operand}{l:List (Nat × TV)}{es:List (List TV)}{tok:Tok}{k:IntKind}{z:Int}{n:Nat}(hx:au ae l x=.vec 7 es tok)(hz:au ae l i=.val (.int k z))(h0:0≤z)(hn:z.toNat=n)(he:n≤es.length):aI prog ae (.slice 127 x (some i) none none) l (.vec 7 (es.drop n) tok):=by
 subst hn
 obtain ⟨inf,i1,i2,_,_⟩:=qi
 have h:=rp (inf:=inf) (P:=prog) (G:=ae) (x:=x) (i:=i) (l:=l) (es:=es) (tok:=tok) underlying127 i1 (by rw [i2];exact hx) hz h0 he
 rw [i2] at h
 exact h
theorem nO {T T1:VT}{s x:Operand}{l:List (Nat × TV)}{es es2:List (List TV)}{k n:Nat}{bn:Bool}(hs:ct T 7 (au ae l s)=some (es,k,n,bn,T1))(hx:gv 7 (au ae l x)=some es2)(hb:es.length+es2.length≤3000):
    aN prog ae 0 T (.call ⟨.builtin .append,#[s,x],#[127,127]⟩) l (.vec 7 (es++es2) (.tail k (n+es2.length))) {T1 with tails:=T1.tails.set k (n+es2.length,7,bn)}:=by
  obtain ⟨inf,i1,i2,i3,i4⟩:=qi
  have h:=iw (inf:=inf) (P:=prog) (G:=ae) (ro:=0) (T:=T) (T1:=T1) (t:=127) (tx:=127) (s:=s) (x:=x) (l:=l) (es:=es) (es2:=es2) (k:=k) (n:=n) (bn:=bn) underlying127 i1 i4 (by rw [i2];rfl) (by rw [i2];decide) (by kernel_rfl) (by rw [i2];exact hs) (by rw [i2];exact hx)
    (by have h1:=i3
        have h2:=Nat.mul_le_mul hb h1
        omega)
  rw [i2] at h
  exact h
def px (L:List En)(f:Fl):Option Nat:=L.findIdx? λe=>xK e.1 f
def ii (L:List En)(f:Fl):Int:=match px L f with
 |some k=>k
 |none=>-1
theorem GP {L:List En}{f:Fl}:(px L f=none∧ii L f=-1)∨∃k,px L f=some k∧ii L f=k∧k<L.length:=by
 unfold ii
 cases h:px L f with
 |none=>exact .inl ⟨rfl,rfl⟩
 |some k=>exact .inr ⟨k,rfl,rfl,(List.findIdx?_eq_some_iff_getElem.1 h).1⟩
theorem IB {L:List En}{f:Fl}{j:Nat}{r:En}(h:L[j]?=some r)(hr:xK r.1 f=true)(hj:∀k r',k<j→L[k]?=some r'→xK r'.1 f=false):px L f=some j:=by
 obtain ⟨hjl,h1⟩:=List.getElem?_eq_some_iff.1 h
 refine List.findIdx?_eq_some_iff_getElem.2 ⟨hjl,by simp [h1,hr],λk hk=> ?_⟩
 have:=hj k _ hk (getElem?_eq_getElem (by omega))
 simpa using this
theorem GQ {L:List En}{f:Fl}(hj:∀k r',k<L.length→L[k]?=some r'→xK r'.1 f=false):px L f=none:=by
 refine List.findIdx?_eq_none_iff.2 λr hr=> ?_
 obtain ⟨k,hk,rfl⟩:=List.getElem_of_mem hr
 simpa using hj k _ hk (getElem?_eq_getElem hk)
section
variable (w c g:Int)
theorem zp (L:List En)(l:List VO):VT.keep ⟨uO w (L.map aP) c g::l,[]⟩ 1 0=⟨[uO w (L.map aP) c g],[]⟩:=by
 have e1:=pw (ai 1) (ai 0) w c g L
 simp only [VT.keep,take_succ_cons,take_zero,map_cons,map_nil,e1]
theorem GR (L:List En)(f:Fl)(l:List VO):VT.keep ⟨uO w (L.map aP) c g:: .cells (bo f)::l,[]⟩ 2 0=⟨[uO w (L.map aP) c g,.cells (bo f)],[]⟩:=by
 have e1:=pw (ai 2) (ai 0) w c g L
 simp only [VT.keep,take_succ_cons,take_zero,map_cons,map_nil,e1]
 rfl
theorem IC (L:List En)(hl:L.length≤1000)(f:Fl):VCx prog ae 0 qP [.ptr 0 0,.agg (bo f)] ⟨[uO w (L.map aP) c g],[]⟩ λx T'=>x=.val (.int .i64 (ii L f))∧T'=⟨[uO w (L.map aP) c g],[]⟩:=by
 have hloop:dS prog ae (KU w c g (L.map aP) (bo f) (ii L f) (px L f).isSome (av prog qP 0)):=cn λp hp=>by
  obtain rfl:=mem_singleton.1 hp
  refine dy λK hK=> ?_
  let sl:Nat→List TV:=λj=>va (L.map aP) 0 j
  let TT:VT:=⟨[uO w (L.map aP) c g,.cells (bo f)],[]⟩
  let Post:Exit→List TV→VT→Prop:=λe vs T=>(∃k:Nat,∃cs,px L f=some k∧e=.ret∧vs=va (L.map aP) k k∧T=⟨[uO w (L.map aP) c g,.cells (bo f),.cells cs],[]⟩)∨(px L f=none∧e=.normal∧vs=sl L.length∧T=TT)
  refine fc (f:=qP) (id:=0) (by kernel_rfl) 23 zk (λj=>L.length-j) sl (λ_=>TT) (λj=>j≤L.length∧∀k r',k<j→L[k]?=some r'→xK r'.1 f=false) 2 0 (λ_ _=>⟨le_refl _,le_refl _⟩)
   Post (λj hj=> ?_) 0 ⟨zero_le _,λk _ hk=>absurd hk (not_lt_zero k)⟩ K (λe vs T hq=> ?_)
  ·obtain ⟨hj,hne⟩:=hj
   by_cases hlt:j<L.length
   ·have hs:L[j]?=some L[j]:=getElem?_eq_getElem hlt
    generalize L[j]=r at hs
    have hw:=fL j (by omega)
    refine cj ah ag aw ak (CI w c g (L.map aP) f.1 f.2.1 f.2.2.1 f.2.2.2.1 f.2.2.2.2 0 r.1.1 r.1.2.1 r.1.2.2.1 r.1.2.2.2.1 r.1.2.2.2.2 r.2.1 r.2.2 j _) ?_
    refine aL (decide_eq_true (by rw [length_map];omega)) ⟨xL rfl rfl (natCast_nonneg _) (by simp only [toNat_natCast];rw [getElem?_map,hs];rfl),aM (λhe=> ?_) (λhe=> ?_)⟩
    ·have he':xK r.1 f=true:=he
     exact ⟨rfl,rfl,.inl ⟨j,_,IB hs he' hne,rfl,rfl,rfl⟩⟩
    ·have he':xK r.1 f=false:=he
     refine ⟨rfl,rfl,j+1,⟨hlt,λk r' hk hr=> ?_⟩,by simp only;omega,.inr ⟨GR w c g L f _,?_⟩⟩
     ·rcases lt_or_ge k j with h | h
      ·exact hne k r' h hr
      ·obtain rfl:k=j:=by omega
       rw [hs] at hr;injection hr with hr;subst hr;exact he'
     ·simp only [ay,TV.ren,ln,Tok.ren]
      simp only [sl,va,hw]
      rfl
   ·obtain rfl:j=L.length:=by omega
    refine cj ah ag aw ak (CI w c g (L.map aP) f.1 f.2.1 f.2.2.1 f.2.2.2.1 f.2.2.2.2 0 0 0 0 0 0 0 0 L.length _) ?_
    exact az (decide_eq_false (by rw [length_map];omega)) ⟨rfl,rfl,.inr ⟨GQ hne,rfl,rfl,rfl⟩⟩
  ·rcases hq with ⟨k,cs,h1,rfl,rfl,rfl⟩ | ⟨h1,rfl,rfl,rfl⟩
   ·simp only [h1,isSome_some,cond_true,ii] at hK
    exact hK cs
   ·simp only [h1,isSome_none,cond_false] at hK
    have e1:sl L.length=va (L.map aP) 0 (L.map aP).length:=by simp only [sl,length_map]
    rw [e1]
    exact hK
 refine VCx.keepQ 1 0 (le_refl _) (le_refl _) (an ah ag aw hloop (J9 w c g (L.map aP) f.1 f.2.1 f.2.2.1 f.2.2.2.1 f.2.2.2.2 (ii L f) (px L f).isSome _) ?_)
 refine ⟨rfl,⟨rfl,rfl,rfl,trivial,rfl,rfl,rfl⟩,?_⟩
 cases h:px L f with
 |none=>exact az rfl ⟨by simp only [ii,h];rfl,zp w c g L _⟩
 |some k=>exact aL rfl λcs=>⟨by simp only [ii,h];rfl,zp w c g L _⟩
theorem ID (L:List En)(hl:L.length≤1000)(k:Nat)(hk:k<L.length):VCx prog ae 0 Fo [.ptr 0 0,.val (.int .i64 k)] ⟨[uO w (L.map aP) c g],[]⟩ λx T'=>x=.tup []∧T'=⟨[uO w ((L.take k++L.drop (k+1)).map aP) c g],[]⟩:=by
 have hw:=fL k (by omega)
 have b1:((L.map aP).take k).length≤1000:=by rw [length_take,length_map];omega
 have b2:((L.map aP).drop (k+1)).length≤1000:=by rw [length_drop,length_map];omega
 refine VCx.keepQ 1 0 (le_refl _) (le_refl _) (an ah ag aw ak (Ka w c g (L.map aP) k k _) ?_)
 refine ⟨CO rfl rfl (natCast_nonneg _) (toNat_natCast _) (by rw [length_map];omega),CP rfl rfl (by rw [hw];exact natCast_nonneg _) (by rw [hw];exact toNat_natCast _) (by rw [length_map];omega),?_,⟨rfl,rfl,trivial⟩,?_,rfl,?_⟩
 ·have o:=nO (T:=⟨[uO w (L.map aP) c g],[]⟩) (T1:=⟨[uO w (L.map aP) c g],[(0,7,false)]⟩) (s:=.tmp 5) (x:=.tmp 11) (l:= [(5,.vec 7 [] .full),(11,.vec 7 ((L.map aP).take k) .none)]) (es:= []) (es2:=(L.map aP).take k) (k:=0) (n:=0) (bn:=false) rfl rfl (by simp only [length_nil];omega)
  simp only [zero_add] at o
  exact o
 ·exact nO (T:=⟨[uO w (L.map aP) c g],[(((L.map aP).take k).length,7,false)]⟩) (T1:=⟨[uO w (L.map aP) c g],[(((L.map aP).take k).length,7,false)]⟩) (es:=(L.map aP).take k) (es2:=(L.map aP).drop (k+1)) (k:=0) (n:=((L.map aP).take k).length) (bn:=false) (by simp [au,dL,ct]) rfl (by omega)
 ·have hm:(L.map aP).take k++(L.map aP).drop (k+1)=(L.take k++L.drop (k+1)).map aP:=by simp only [map_append,List.map_take,List.map_drop]
  rw [hm]
  simp only [VT.keep,take_succ_cons,take_zero,map_cons,map_nil,VO.ren,ay,TV.ren,ln,Tok.ren,ai,uO]
  rfl
theorem IE {f:FuncId}{ys0:List TV}{L L':List En}{x0:TV}(hy:ay (am [0]) (am []) ys0=ys0)(hx:∀f g,x0.ren f g=x0)
  (hv:VCx prog ae 0 f ys0 ⟨[uO w (L.map aP) c g],[]⟩ λx T'=>x=x0∧T'=⟨[uO w (L'.map aP) c g],[]⟩) {T:VT} (ho:T.objs[0]?=some (uO w (L.map aP) c g)) {K:TV→VT→Prop} (hk:K x0 {T with objs:=T.objs.set 0 (uO w (L'.map aP) c g)}):
  VCx prog ae 0 f ys0 T K:=by
 have hg:T.give [0] []=⟨[uO w (L.map aP) c g],[]⟩:=by
  have:=pw (am [0]) (am []) w c g L
  simp only [VT.give,map_cons,map_nil,ho,getD_some,this]
 refine (VCx.lift (xs:=ys0) [0] [] bc (by simp) List.nodup_nil (λj hj=> ?_) (by simp) (λ_ _=>zero_le _) hy (by rw [hg];exact hv) (λx T' hq=> ?_)).mono ?_
 ·obtain rfl:=mem_singleton.1 hj;exact ⟨_,ho,rfl⟩
 ·rw [hq.2];exact ⟨le_refl 1,zero_le _⟩
 ·rintro x T' ⟨y,T2,⟨rfl,rfl⟩,rfl,rfl⟩
  have:=pw (aq T.objs.length [0]) (aq T.tails.length []) w c g L'
  simp only [VT.back,map_cons,map_nil,this,aS,List.append_nil,hx]
  exact hk
end
def Fu (L:List En):Prop:=L.length≤20
def uQ:TV→VT→Prop:=λx T'=>∃(e:En) (b:Bool) (L':List En) (c g:Int),x=.tup [.agg (aP e),.val (.bool b)]∧Fu L'∧T'=⟨[uO 0 (L'.map aP) c g],[]⟩
theorem IF (c g:Int)(L:List En)(hl:Fu L)(f:Fl)(b:Int):VCx prog ae 0 xG [.ptr 0 0,.agg (bo f),.val (.int .i64 b),.val (.int .i64 0)] ⟨[uO 0 (L.map aP) c g],[]⟩ uQ:=by
 have hl':L.length≤20:=hl
 let L1:Int→List En:=λi=>L.take i.toNat++L.drop (i.toNat+1)
 let ok:Int→Prop:=λi=>0≤i∧i.toNat<L.length
 have hC:aT prog ae (aE [(qP,Fp (L.map aP) (bo f) (ii L f)),(Fo,Fq (L.map aP) (λi=>(L1 i).map aP) ok)]):=aJ λp hp=>by
  simp only [mem_cons,not_mem_nil,or_false] at hp
  rcases hp with rfl | rfl
  ·intro ro ys T K h
   have h':Fp (L.map aP) (bo f) (ii L f) ro ys T K:=h
   clear h
   unfold Fp at h'
   split at h'
   ·rename_i ho
    obtain ⟨⟨rfl,rfl,rfl⟩,hk⟩:=h'
    refine IE _ _ _ (L:=L) (L':=L) rfl (λ_ _=>rfl) (IC _ _ _ L (by omega) f) ho ?_
    exact (congrArg (λl=>K _ {T with objs:=l}) (fe ho)).mpr hk
   ·exact h'.elim
  ·intro ro ys T K h
   have h':Fq (L.map aP) (λi=>(L1 i).map aP) ok ro ys T K:=h
   clear h
   unfold Fq at h'
   split at h'
   ·rename_i i w' L' c' g' ho
    obtain ⟨⟨rfl,rfl,hi,hi2⟩,hk⟩:=h'
    have e:(i.toNat:Int)=i:=Int.toNat_of_nonneg hi
    refine IE _ _ _ (L:=L) (L':=L1 i) rfl (λ_ _=>rfl) ?_ ho hk
    have:=ID w' c' g' L (by omega) i.toNat hi2
    rw [e] at this
    exact this
   ·exact h'.elim
 have app1:∀(M:List En) (objs:List VO),M.length≤20→aN prog ae 0 ⟨objs,[]⟩ (.call ⟨.builtin .append,#[.tmp 57,.tmp 61],#[127,127]⟩) [(57,.vec 7 [] .full),(61,.vec 7 (M.map aP) .none)] (.vec 7 (M.map aP) (.tail 0 (M.map aP).length)) ⟨objs,[((M.map aP).length,7,false)]⟩:=λM objs hM=>by
  have o:=nO (T:=⟨objs,[]⟩) (T1:=⟨objs,[(0,7,false)]⟩) (s:=.tmp 57) (x:=.tmp 61) (l:= [(57,.vec 7 [] .full),(61,.vec 7 (M.map aP) .none)]) (es:= []) (es2:=M.map aP) (k:=0) (n:=0) (bn:=false) rfl rfl (by simp only [length_nil,length_map];omega)
  simp only [zero_add] at o
  exact o
 have app2:∀(M:List En) (objs:List VO),M.length≤20→aN prog ae 0 ⟨objs,[((M.map aP).length,7,false)]⟩ (.call ⟨.builtin .append,#[.tmp 62,.tmp 67],#[127,127]⟩) [(62,.vec 7 (M.map aP) (.tail 0 (M.map aP).length)),(67,.vec 7 [iU (bo f) b 0] .full)] (.vec 7 (M.map aP++ [iU (bo f) b 0]) (.tail 0 ((M.map aP).length+1))) ⟨objs,[((M.map aP).length+1,7,false)]⟩:=λM objs hM=>
  nO (T:=⟨objs,[((M.map aP).length,7,false)]⟩) (T1:=⟨objs,[((M.map aP).length,7,false)]⟩) (es:=M.map aP) (es2:= [iU (bo f) b 0]) (k:=0) (n:=(M.map aP).length) (bn:=false) (by simp [au,dL,ct]) rfl (by simp only [length_map,length_cons,length_nil];omega)
 have fin:∀(M:List En) (e:En) (q:Bool) (c g:Int) (l:List VO) (tl:List (Nat × Nat × Bool)),M.length≤19→uQ (.tup [.agg (aP e),.val (.bool q)]) (VT.keep ⟨.cells [.val (.int .i64 20),.val (.int .i64 100),.val (.int .i64 0),.vec 7 (M.map aP++ [iU (bo f) b 0]) (.tail 0 ((M.map aP).length+1)),.val (.int .i64 c),.val (.int .i64 g)]::l,tl⟩ 1 0):=λM e q c g l tl hM=>by
  refine ⟨e,q,M++ [(f,b,0)],c,g,rfl,by unfold Fu;simp;omega,?_⟩
  have hm:M.map aP++ [iU (bo f) b 0]=(M++ [(f,b,0)]).map aP:=by simp [aP]
  rw [hm]
  simp only [VT.keep,take_succ_cons,take_zero,map_cons,map_nil,VO.ren,ay,TV.ren,ln,Tok.ren,ai,uO]
  rfl
 have hr:∀M,M=(bif decide (ii L f≥0) then L1 (ii L f) else bif decide (L.length≥20) then L1 0 else L)→VCx prog ae 0 xG [.ptr 0 0,.agg (bo f),.val (.int .i64 b),.val (.int .i64 0)] ⟨[uO 0 (L.map aP) c g],[]⟩ uQ:=λM hM=>by
  have hd:∃e:En,L.length≥20→L[0]?=some e:=by
   cases L with
   |nil=>exact ⟨(((0,0,0,0,0),0,0)),λh=>by simp at h⟩
   |cons a l=>exact ⟨a,λ_=>rfl⟩
  obtain ⟨e,he⟩:=hd
  refine VCx.keepQ 1 0 (le_refl _) (le_refl _) (an ah ag hC ak (Kb c g (L.map aP) (M.map aP) (λi=>(L1 i).map aP) ok f.1 f.2.1 f.2.2.1 f.2.2.2.1 f.2.2.2.2 b (ii L f) e.1.1 e.1.2.1 e.1.2.2.1 e.1.2.2.2.1 e.1.2.2.2.2 e.2.1 e.2.2 _) ?_)
  refine ⟨⟨rfl,rfl,rfl⟩,aM (λh1=> ?_) (λh1=>aM (λh2=> ?_) (λh2=> ?_))⟩
  ·rw [h1,cond_true] at hM
   subst hM
   rcases GP (L:=L) (f:=f) with ⟨_,hz⟩ | ⟨k,_,hz,hk⟩
   ·rw [hz] at h1;simp at h1
   ·have hlen:(L1 (ii L f)).length≤19:=by
     simp only [L1,hz,toNat_natCast,length_append,length_take,length_drop];omega
    exact ⟨⟨rfl,rfl,by rw [hz];exact natCast_nonneg _,by rw [hz,toNat_natCast];exact hk⟩,app1 _ _ (by omega),⟨rfl,rfl,trivial⟩,app2 _ _ (by omega),fin _ ((0,0,0,0,0),0,0) _ _ _ _ _ hlen⟩
  ·have h2':L.length≥20:=by simp at h2;omega
   rw [h1,cond_false,decide_eq_true h2',cond_true] at hM
   subst hM
   have hlen:(L1 0).length≤19:=by
    simp only [L1,Int.toNat_zero,length_append,length_take,length_drop];omega
   exact ⟨xL rfl rfl (by decide) (by have:=he h2';simp only [Int.toNat_zero];rw [getElem?_map,this];rfl),⟨rfl,rfl,by decide,by show 0<_;omega⟩,app1 _ _ (by omega),⟨rfl,rfl,trivial⟩,app2 _ _ (by omega),fin _ e _ _ _ _ _ hlen⟩
  ·have h2':¬L.length≥20:=by simp at h2;omega
   rw [h1,cond_false,decide_eq_false h2',cond_false] at hM
   subst hM
   exact ⟨app1 _ _ (by omega),⟨rfl,rfl,trivial⟩,app2 _ _ (by omega),fin _ ((0,0,0,0,0),0,0) _ _ _ _ _ (by omega)⟩
 exact hr _ rfl
end
abbrev zq:=71
abbrev zr:=72
abbrev CQ:=87
abbrev Fv:=70
abbrev ve:=35
abbrev xM:=9
def kF:KS:=⟨true,[.int .i64,.int .u32,.int .u32,.int .i64,.int .i64]⟩
def ap (x:Nat→VO):List VO:=(List.range 101).map x
def l7 (now came went:Int):VO:=.cells [.val (.int .i64 20),.val (.int .i64 100),.val (.int .i64 now),.map 5,.ptr 4 0,.val (.int .i64 came),.val (.int .i64 went)]
def cR (o:Nat→VO)(rg:VO)(lk:Value→Option TV)(es:Es)(ck:Nat)(now came went:Int):List VO:= [o 0,o 1,o 2,o 3,rg,.map kF lk es ck,l7 now came went,o 7,o 8,o 9,o 10,o 11,o 12,o 13,o 14,o 15]
def fy (o:Nat→VO)(rg:VO)(lk:Value→Option TV)(es:Es)(ck:Nat)(now came went:Int)(x:Nat→VO)(y:List VO):VT:=⟨cR o rg lk es ck now came went++(ap x++y),[]⟩
def Fw (T:VT)(rg:VO)(x:Nat→VO):VT:=⟨(T.objs.take 16).set 4 rg++(ap x++T.objs.drop 117),T.tails⟩
def IG (T:VT)(e:Nat)(rg:VO)(x:Nat→VO)(lk:VO):VT:=⟨(T.objs.take 16).set 4 rg++(ap x++(T.objs.drop 117).set (e-117) lk),T.tails⟩
def LC (T:VT)(x:Nat→VO):VT:=⟨T.objs.take 16++(ap x++T.objs.drop 117),T.tails⟩
def Fx (T:VT)(rg mp:VO)(x:Nat→VO):VT:=⟨((T.objs.take 16).set 4 rg).set 5 mp++(ap x++T.objs.drop 117),T.tails⟩
def Fy (T:VT)(rg mp tb:VO)(x:Nat→VO):VT:=⟨(((T.objs.take 16).set 4 rg).set 5 mp).set 6 tb++(ap x++T.objs.drop 117),T.tails⟩
def Fz (p:Nat)(Pre:VT→Prop)(rg:VO)(x:Nat→VO):aZ:=λro ys T K=>(ro=0∧ys= [.ptr p 0]∧Pre T)∧K (.tup []) (Fw T rg x)
def KV (p:Nat)(Pre:VT→Prop)(rg:VO)(x:Nat→VO):aZ:=λro ys T K=>(ro=0∧ys= [.ptr 6 0,.ptr p 0]∧Pre T)∧K (.tup []) (Fw T rg x)
def KW (e:Nat)(Pre:VT→Prop)(rg:VO)(x:Nat→VO)(lk:VO):aZ:=λro ys T K=>(ro=0∧ys= [.ptr 6 0,.ptr e 0]∧Pre T)∧K (.tup []) (IG T e rg x lk)
def II (p:Nat)(Pre:VT→Prop)(rg mp:VO)(x:Nat→VO):aZ:=λro ys T K=>(ro=0∧ys= [.ptr 6 0,.ptr p 0]∧Pre T)∧K (.tup []) (Fx T rg mp x)
def KY (Pre:VT→Prop)(en:En)(b:Bool)(rg mp tb:VO)(x:Nat→VO):aZ:=λro ys T K=>(ro=0∧ys= [.ptr 6 0]∧Pre T)∧K (.tup [.agg (aP en),.val (.bool b)]) (Fy T rg mp tb x)
theorem Kc (T T1 T2:VT)(p a c:Nat)(Q:TV→VT→Prop):aK prog ae c9 (bw [(999998,.dead,none),(999999,.dead,none),(5,.ptr a 0,none),(9,.ptr c 0,none),(13,.ptr c 0,none),(17,.ptr a 0,none),(500019,.val undef,some λ_=>T1),(500021,.val undef,some λ_=>T2)]) 300 bq 0 zq [.ptr p 0] T Q=
 (cT prog (λ_=>.none) (T) false (.load 96 (.tmp 4)) [(4,(.ptr p 7))] (cV a)∧
 (cT prog (λ_=>.none) (T) false (.load 96 (.tmp 8)) [(8,(.ptr p 8))] (cV c)∧
 (cT prog (λ_=>.none) (T) false (.load 96 (.tmp 12)) [(12,(.ptr p 8))] (cV c)∧
 (cT prog (λ_=>.none) (T) false (.load 96 (.tmp 16)) [(16,(.ptr p 7))] (cV a)∧
 (aN prog (λ_=>.none) 0 (T) (.store 96 (.tmp 19) (.tmp 13)) [(19,(.ptr a 8)),(13,(cV c))] (.val (.tuple #[])) (T1)∧
 (aN prog (λ_=>.none) 0 (T1) (.store 96 (.tmp 21) (.tmp 17)) [(21,(.ptr c 7)),(17,(cV a))] (.val (.tuple #[])) (T2)∧
 Q (.tup []) (T2))))))):=by kernel_rfl
theorem Kd (T T1 T2 T3 T4 T5:VT)(p r a:Nat)(now:Int)(Q:TV→VT→Prop):aK prog ae c9 (bw [(999998,.dead,none),(999999,.dead,none),(8,.val (.int .i64 now),some λT=>T),(500011,.val undef,some λ_=>T1),(17,.ptr r 0,none),(20,.ptr a 0,none),(24,.ptr r 0,none),(500026,.val undef,some λ_=>T2),(500028,.val undef,some λ_=>T3),(32,.ptr a 0,none),(36,.ptr r 0,none),(500040,.val undef,some λ_=>T4),(500042,.val undef,some λ_=>T5)]) 300 bq 0 zr [.ptr 6 0,.ptr p 0] T Q=
 (aN prog (λ_=>.none) 0 (T) (.load 3 (.tmp 7)) [(7,(.ptr 6 2))] (ar now) (T)∧
 (aN prog (λ_=>.none) 0 (T) (.store 3 (.tmp 11) (.tmp 8)) [(11,(.ptr p 6)),(8,(ar now))] (.val (.tuple #[])) (T1)∧
 (cT prog (λ_=>.none) (T1) false (.load 96 (.tmp 16)) [(16,(.ptr 6 4))] (cV r)∧
 (cT prog (λ_=>.none) (T1) false (.load 96 (.tmp 19)) [(19,(.ptr r 7))] (cV a)∧
 (cT prog (λ_=>.none) (T1) false (.load 96 (.tmp 23)) [(23,(.ptr 6 4))] (cV r)∧
 (aN prog (λ_=>.none) 0 (T1) (.store 96 (.tmp 26) (.tmp 20)) [(26,(.ptr p 7)),(20,(cV a))] (.val (.tuple #[])) (T2)∧
 (aN prog (λ_=>.none) 0 (T2) (.store 96 (.tmp 28) (.tmp 24)) [(28,(.ptr p 8)),(24,(cV r))] (.val (.tuple #[])) (T3)∧
 (cT prog (λ_=>.none) (T3) false (.load 96 (.tmp 31)) [(31,(.ptr p 7))] (cV a)∧
 (cT prog (λ_=>.none) (T3) false (.load 96 (.tmp 35)) [(35,(.ptr 6 4))] (cV r)∧
 (aN prog (λ_=>.none) 0 (T3) (.store 96 (.tmp 40) (.tmp 37)) [(40,(.ptr a 8)),(37,(cV p))] (.val (.tuple #[])) (T4)∧
 (aN prog (λ_=>.none) 0 (T4) (.store 96 (.tmp 42) (.tmp 38)) [(42,(.ptr r 7)),(38,(cV p))] (.val (.tuple #[])) (T5)∧
 Q (.tup []) (T5)))))))))))):=by kernel_rfl
theorem Ke (o:Nat→VO)(rg:VO)(lk:Value→Option TV)(es:Es)(ck:Nat)(now came went:Int)(x:Nat→VO)(y:List VO)(rg1:VO)(x1:Nat→VO)(p:Nat)(f:Fl)(Pre:VT→Prop)(Q:TV→VT→Prop):aK prog ae (aE [(zq,Fz p Pre rg1 x1)]) (bw [(999998,.dead,none),(14,.agg (bo f),none)]) 300 bq 0 CQ [.ptr 6 0,.ptr p 0] (fy o rg lk es ck now came went x y) Q=
 (((@Eq (Nat) 0 0)∧
 ((@Eq (List TV) [(cV p)] [(cV p)])∧
 Pre ⟨(([(o (0:Nat)),(o (1:Nat)),(o (2:Nat)),(o (3:Nat)),(rg),(.map ⟨true,[(.int .i64),(.int .u32),(.int .u32),(.int .i64),(.int .i64)]⟩ (lk) (es) (ck)),(Ed now (.map 5) came went),(o (7:Nat)),(o (8:Nat)),(o (9:Nat)),(o (10:Nat)),(o (11:Nat)),(o (12:Nat)),(o (13:Nat)),(o (14:Nat)),(o (15:Nat))]++(ap x++ []))++y),[]⟩))∧
 (cT prog (λ_=>.none) ⟨(([(o (0:Nat)),(o (1:Nat)),(o (2:Nat)),(o (3:Nat)),(rg1),(.map ⟨true,[(.int .i64),(.int .u32),(.int .u32),(.int .i64),(.int .i64)]⟩ (lk) (es) (ck)),(Ed now (.map 5) came went),(o (7:Nat)),(o (8:Nat)),(o (9:Nat)),(o (10:Nat)),(o (11:Nat)),(o (12:Nat)),(o (13:Nat)),(o (14:Nat)),(o (15:Nat))]++(ap x1++ []))++y),[]⟩ false (.load 31 (.tmp 13)) [(13,(cV p))] (hZ (fst f) (fst (snd f)) (fst (snd (snd f))) (fst (snd (snd (snd f)))) (snd (snd (snd (snd f)))))∧
 Q (.tup []) ⟨(([(o (0:Nat)),(o (1:Nat)),(o (2:Nat)),(o (3:Nat)),(rg1),(.map ⟨true,[(.int .i64),(.int .u32),(.int .u32),(.int .i64),(.int .i64)]⟩ (λkk=>(bif aj
  ((λvs=>Value.agg (toArray vs))
    ((λx=>Value.int i64 (fst f)::x) ((λx=>Value.int u32 (fst (snd f))::x) ((λx=>Value.int u32 (fst (snd (snd f)))::x) ((λx=>Value.int i64 (fst (snd (snd (snd f))))::x) ((λx=>Value.int i64 (snd (snd (snd (snd f))))::x) []))))))
  kk then .none else (lk kk))) (dm
  ((λvs=>Value.agg (toArray vs))
    ((λx=>Value.int i64 (fst f)::x) ((λx=>Value.int u32 (fst (snd f))::x) ((λx=>Value.int u32 (fst (snd (snd f)))::x) ((λx=>Value.int i64 (fst (snd (snd (snd f))))::x) ((λx=>Value.int i64 (snd (snd (snd (snd f))))::x) []))))))
  es) (ck)),(Ed now (.map 5) came went),(o (7:Nat)),(o (8:Nat)),(o (9:Nat)),(o (10:Nat)),(o (11:Nat)),(o (12:Nat)),(o (13:Nat)),(o (14:Nat)),(o (15:Nat))]++(ap x1++ []))++y),[]⟩)):=by kernel_rfl
theorem FA (o:Nat→VO)(rg:VO)(lk:Value→Option TV)(es:Es)(ck:Nat)(now came went:Int)(x:Nat→VO)(y0 y1 y2 y3:VO)(rg1 mp1:VO)(x1:Nat→VO)(p:Nat)(en:En)(Pre:VT→Prop)(Q:TV→VT→Prop):aK prog ae (aE [(CQ,II p Pre rg1 mp1 x1)]) (bw [(999998,.dead,none),(22,.ptr p 0,some λT=>T),(36,.agg (aP en),some λT=>T)]) 300 bq 0 Fv [.ptr 6 0] (fy o rg lk es ck now came went x [y0,y1,y2,y3]) Q=
 (bif decide ((↑(length es):Int)<(20:Int))
 then Q Ec ⟨[(o (0:Nat)),(o (1:Nat)),(o (2:Nat)),(o (3:Nat)),(rg),(.map ⟨true,[(.int .i64),(.int .u32),(.int .u32),(.int .i64),(.int .i64)]⟩ (lk) (es) (ck)),(.cells [(.val (.int .i64 20)),(.val (.int .i64 100)),(.val (.int .i64 (now))),(.map 5),(.ptr 4 0),(.val (.int .i64 (came))),(.val (.int .i64 (went)))]),(o (7:Nat)),(o (8:Nat)),(o (9:Nat)),(o (10:Nat)),(o (11:Nat)),(o (12:Nat)),(o (13:Nat)),(o (14:Nat)),(o (15:Nat))]++(ap x++ [(y0),(y1),(y2),(y3),(.cells [(.val (.int .i64 0)),(.val (.int .u32 0)),(.val (.int .u32 0)),(.val (.int .i64 0)),(.val (.int .i64 0)),(.val (.int .i64 0)),(.val (.int .i64 0))])]),[]⟩
 else (aN prog (λ_=>.none) 0 ⟨[(o (0:Nat)),(o (1:Nat)),(o (2:Nat)),(o (3:Nat)),(rg),(.map ⟨true,[(.int .i64),(.int .u32),(.int .u32),(.int .i64),(.int .i64)]⟩ (lk) (es) (ck)),(.cells [(.val (.int .i64 20)),(.val (.int .i64 100)),(.val (.int .i64 (now))),(.map 5),(.ptr 4 0),(.val (.int .i64 (came))),(.val (.int .i64 (went)))]),(o (7:Nat)),(o (8:Nat)),(o (9:Nat)),(o (10:Nat)),(o (11:Nat)),(o (12:Nat)),(o (13:Nat)),(o (14:Nat)),(o (15:Nat))]++(ap x++ [(y0),(y1),(y2),(y3),(.cells [(.val (.int .i64 0)),(.val (.int .u32 0)),(.val (.int .u32 0)),(.val (.int .i64 0)),(.val (.int .i64 0)),(.val (.int .i64 0)),(.val (.int .i64 0))])]),[]⟩ (.load 96 (.tmp 21)) [(21,(.ptr 4 8))] (cV p) ⟨[(o (0:Nat)),(o (1:Nat)),(o (2:Nat)),(o (3:Nat)),(rg),(.map ⟨true,[(.int .i64),(.int .u32),(.int .u32),(.int .i64),(.int .i64)]⟩ (lk) (es) (ck)),(.cells [(.val (.int .i64 20)),(.val (.int .i64 100)),(.val (.int .i64 (now))),(.map 5),(.ptr 4 0),(.val (.int .i64 (came))),(.val (.int .i64 (went)))]),(o (7:Nat)),(o (8:Nat)),(o (9:Nat)),(o (10:Nat)),(o (11:Nat)),(o (12:Nat)),(o (13:Nat)),(o (14:Nat)),(o (15:Nat))]++(ap x++ [(y0),(y1),(y2),(y3),(.cells [(.val (.int .i64 0)),(.val (.int .u32 0)),(.val (.int .u32 0)),(.val (.int .i64 0)),(.val (.int .i64 0)),(.val (.int .i64 0)),(.val (.int .i64 0))])]),[]⟩∧
 (((@Eq (Nat) 0 0)∧
 ((@Eq (List TV) [hP,(cV p)] [hP,(cV p)])∧
 Pre ⟨[(o (0:Nat)),(o (1:Nat)),(o (2:Nat)),(o (3:Nat)),(rg),(.map ⟨true,[(.int .i64),(.int .u32),(.int .u32),(.int .i64),(.int .i64)]⟩ (lk) (es) (ck)),(.cells [(.val (.int .i64 20)),(.val (.int .i64 100)),(.val (.int .i64 (now))),(.map 5),(.ptr 4 0),(.val (.int .i64 (came))),(.val (.int .i64 (went)))]),(o (7:Nat)),(o (8:Nat)),(o (9:Nat)),(o (10:Nat)),(o (11:Nat)),(o (12:Nat)),(o (13:Nat)),(o (14:Nat)),(o (15:Nat))]++(ap x++ [(y0),(y1),(y2),(y3),(.cells [(.val (.int .i64 0)),(.val (.int .u32 0)),(.val (.int .u32 0)),(.val (.int .i64 0)),(.val (.int .i64 0)),(.val (.int .i64 0)),(.val (.int .i64 0))])]),[]⟩))∧
 (aN prog (λ_=>.none) 0 ⟨[(o (0:Nat)),(o (1:Nat)),(o (2:Nat)),(o (3:Nat)),(rg1),(mp1),(.cells [(.val (.int .i64 20)),(.val (.int .i64 100)),(.val (.int .i64 (now))),(.map 5),(.ptr 4 0),(.val (.int .i64 (came))),(.val (.int .i64 (wrap i64 (went+(1:Int)))))]),(o (7:Nat)),(o (8:Nat)),(o (9:Nat)),(o (10:Nat)),(o (11:Nat)),(o (12:Nat)),(o (13:Nat)),(o (14:Nat)),(o (15:Nat))]++(ap x1++ [(y0),(y1),(y2),(y3),(.cells [(.val (.int .i64 0)),(.val (.int .u32 0)),(.val (.int .u32 0)),(.val (.int .i64 0)),(.val (.int .i64 0)),(.val (.int .i64 0)),(.val (.int .i64 0))])]),[]⟩ (.load 49 (.tmp 35)) [(35,(cV p))] (wX (fst (fst en)) (fst (snd (fst en))) (fst (snd (snd (fst en)))) (fst (snd (snd (snd (fst en))))) (snd (snd (snd (snd (fst en))))) (fst (snd en)) (snd (snd en))) ⟨[(o (0:Nat)),(o (1:Nat)),(o (2:Nat)),(o (3:Nat)),(rg1),(mp1),(.cells [(.val (.int .i64 20)),(.val (.int .i64 100)),(.val (.int .i64 (now))),(.map 5),(.ptr 4 0),(.val (.int .i64 (came))),(.val (.int .i64 (wrap i64 (went+(1:Int)))))]),(o (7:Nat)),(o (8:Nat)),(o (9:Nat)),(o (10:Nat)),(o (11:Nat)),(o (12:Nat)),(o (13:Nat)),(o (14:Nat)),(o (15:Nat))]++(ap x1++ [(y0),(y1),(y2),(y3),(.cells [(.val (.int .i64 0)),(.val (.int .u32 0)),(.val (.int .u32 0)),(.val (.int .i64 0)),(.val (.int .i64 0)),(.val (.int .i64 0)),(.val (.int .i64 0))])]),[]⟩∧
 Q (.tup [(wX (fst (fst en)) (fst (snd (fst en))) (fst (snd (snd (fst en)))) (fst (snd (snd (snd (fst en))))) (snd (snd (snd (snd (fst en))))) (fst (snd en)) (snd (snd en))),fH]) ⟨[(o (0:Nat)),(o (1:Nat)),(o (2:Nat)),(o (3:Nat)),(rg1),(mp1),(.cells [(.val (.int .i64 20)),(.val (.int .i64 100)),(.val (.int .i64 (now))),(.map 5),(.ptr 4 0),(.val (.int .i64 (came))),(.val (.int .i64 (wrap i64 (went+(1:Int)))))]),(o (7:Nat)),(o (8:Nat)),(o (9:Nat)),(o (10:Nat)),(o (11:Nat)),(o (12:Nat)),(o (13:Nat)),(o (14:Nat)),(o (15:Nat))]++(ap x1++ [(y0),(y1),(y2),(y3),(.cells [(.val (.int .i64 (fst (fst en)))),(.val (.int .u32 (fst (snd (fst en))))),(.val (.int .u32 (fst (snd (snd (fst en)))))),(.val (.int .i64 (fst (snd (snd (snd (fst en))))))),(.val (.int .i64 (snd (snd (snd (snd (fst en))))))),(.val (.int .i64 (fst (snd en)))),(.val (.int .i64 (snd (snd en))))])]),[]⟩)))):=by kernel_rfl
theorem IJ (o:Nat→VO)(rg:VO)(lk:Value→Option TV)(es:Es)(ck:Nat)(now came went:Int)(x:Nat→VO)(z:VO)(rg1 rg3:VO)(x1 x2 x3:Nat→VO)(p:Nat)(f:Fl)(b n:Int)(Pre Pre2:VT→Prop)(Q:TV→VT→Prop):aK prog ae (aE [(zq,Fz p Pre rg1 x1),(zr,KV p Pre2 rg3 x3)]) (bw [(999998,.dead,none),(25,.ptr p 0,none),(500056,.val undef,some λT=>LC T x2)]) 300 bq 0 ve [.ptr 6 0,.agg (bo f),.val (.int .i64 b),.val (.int .i64 n)] (fy o rg lk es ck now came went x [z]) Q=
 (cT prog (λ_=>.none) ⟨[(o (0:Nat)),(o (1:Nat)),(o (2:Nat)),(o (3:Nat)),(rg),(.map ⟨true,[(.int .i64),(.int .u32),(.int .u32),(.int .i64),(.int .i64)]⟩ (lk) (es) (ck)),(.cells [(.val (.int .i64 20)),(.val (.int .i64 100)),(.val (.int .i64 (if n>now then n else now))),(.map 5),(.ptr 4 0),(.val (.int .i64 (came))),(.val (.int .i64 (went)))]),(o (7:Nat)),(o (8:Nat)),(o (9:Nat)),(o (10:Nat)),(o (11:Nat)),(o (12:Nat)),(o (13:Nat)),(o (14:Nat)),(o (15:Nat))]++(ap x++ [(z),(.cells [(.val (.int .i64 (fst f))),(.val (.int .u32 (fst (snd f)))),(.val (.int .u32 (fst (snd (snd f))))),(.val (.int .i64 (fst (snd (snd (snd f)))))),(.val (.int .i64 (snd (snd (snd (snd f))))))]),(.cells [(.val (.int .i64 0)),(.val (.int .u32 0)),(.val (.int .u32 0)),(.val (.int .i64 0)),(.val (.int .i64 0)),(.val (.int .i64 0)),(.val (.int .i64 0))]),(.cells [(.val (.int .i64 0)),(.val (.int .u32 0)),(.val (.int .u32 0)),(.val (.int .i64 0)),(.val (.int .i64 0)),(.val (.int .i64 0)),(.val (.int .i64 0))])]),[]⟩ false (.lookup 97 (.tmp 23) (.tmp 24) false) [(23,(.map 5)),(24,(hZ (fst f) (fst (snd f)) (fst (snd (snd f))) (fst (snd (snd (snd f)))) (snd (snd (snd (snd f))))))] (cV p)∧
 (((@Eq (Nat) 0 0)∧
 ((@Eq (List TV) [(cV p)] [(cV p)])∧
 Pre ⟨[(o (0:Nat)),(o (1:Nat)),(o (2:Nat)),(o (3:Nat)),(rg),(.map ⟨true,[(.int .i64),(.int .u32),(.int .u32),(.int .i64),(.int .i64)]⟩ (lk) (es) (ck)),(.cells [(.val (.int .i64 20)),(.val (.int .i64 100)),(.val (.int .i64 (if n>now then n else now))),(.map 5),(.ptr 4 0),(.val (.int .i64 (came))),(.val (.int .i64 (went)))]),(o (7:Nat)),(o (8:Nat)),(o (9:Nat)),(o (10:Nat)),(o (11:Nat)),(o (12:Nat)),(o (13:Nat)),(o (14:Nat)),(o (15:Nat))]++(ap x++ [(z),(.cells [(.val (.int .i64 (fst f))),(.val (.int .u32 (fst (snd f)))),(.val (.int .u32 (fst (snd (snd f))))),(.val (.int .i64 (fst (snd (snd (snd f)))))),(.val (.int .i64 (snd (snd (snd (snd f))))))]),(.cells [(.val (.int .i64 0)),(.val (.int .u32 0)),(.val (.int .u32 0)),(.val (.int .i64 0)),(.val (.int .i64 0)),(.val (.int .i64 0)),(.val (.int .i64 0))]),(.cells [(.val (.int .i64 0)),(.val (.int .u32 0)),(.val (.int .u32 0)),(.val (.int .i64 0)),(.val (.int .i64 0)),(.val (.int .i64 0)),(.val (.int .i64 0))])]),[]⟩))∧
 (aN prog (λ_=>.none) 0 ⟨[(o (0:Nat)),(o (1:Nat)),(o (2:Nat)),(o (3:Nat)),(rg1),(.map ⟨true,[(.int .i64),(.int .u32),(.int .u32),(.int .i64),(.int .i64)]⟩ (lk) (es) (ck)),(.cells [(.val (.int .i64 20)),(.val (.int .i64 100)),(.val (.int .i64 (if n>now then n else now))),(.map 5),(.ptr 4 0),(.val (.int .i64 (came))),(.val (.int .i64 (went)))]),(o (7:Nat)),(o (8:Nat)),(o (9:Nat)),(o (10:Nat)),(o (11:Nat)),(o (12:Nat)),(o (13:Nat)),(o (14:Nat)),(o (15:Nat))]++(ap x1++ [(z),(.cells [(.val (.int .i64 (fst f))),(.val (.int .u32 (fst (snd f)))),(.val (.int .u32 (fst (snd (snd f))))),(.val (.int .i64 (fst (snd (snd (snd f)))))),(.val (.int .i64 (snd (snd (snd (snd f))))))]),(.cells [(.val (.int .i64 0)),(.val (.int .u32 0)),(.val (.int .u32 0)),(.val (.int .i64 0)),(.val (.int .i64 0)),(.val (.int .i64 0)),(.val (.int .i64 0))]),(.cells [(.val (.int .i64 0)),(.val (.int .u32 0)),(.val (.int .u32 0)),(.val (.int .i64 0)),(.val (.int .i64 0)),(.val (.int .i64 0)),(.val (.int .i64 0))])]),[]⟩ (.store 3 (.tmp 56) (.tmp 53)) [(56,(.ptr p 5)),(53,(ar b))] (.val (.tuple #[])) ⟨[(o (0:Nat)),(o (1:Nat)),(o (2:Nat)),(o (3:Nat)),(rg1),(.map ⟨true,[(.int .i64),(.int .u32),(.int .u32),(.int .i64),(.int .i64)]⟩ (lk) (es) (ck)),(.cells [(.val (.int .i64 20)),(.val (.int .i64 100)),(.val (.int .i64 (if n>now then n else now))),(.map 5),(.ptr 4 0),(.val (.int .i64 (came))),(.val (.int .i64 (went)))]),(o (7:Nat)),(o (8:Nat)),(o (9:Nat)),(o (10:Nat)),(o (11:Nat)),(o (12:Nat)),(o (13:Nat)),(o (14:Nat)),(o (15:Nat))]++(ap x2++ [(z),(.cells [(.val (.int .i64 (fst f))),(.val (.int .u32 (fst (snd f)))),(.val (.int .u32 (fst (snd (snd f))))),(.val (.int .i64 (fst (snd (snd (snd f)))))),(.val (.int .i64 (snd (snd (snd (snd f))))))]),(.cells [(.val (.int .i64 0)),(.val (.int .u32 0)),(.val (.int .u32 0)),(.val (.int .i64 0)),(.val (.int .i64 0)),(.val (.int .i64 0)),(.val (.int .i64 0))]),(.cells [(.val (.int .i64 0)),(.val (.int .u32 0)),(.val (.int .u32 0)),(.val (.int .i64 0)),(.val (.int .i64 0)),(.val (.int .i64 0)),(.val (.int .i64 0))])]),[]⟩∧
 (((@Eq (Nat) 0 0)∧
 ((@Eq (List TV) [hP,(cV p)] [hP,(cV p)])∧
 Pre2 ⟨[(o (0:Nat)),(o (1:Nat)),(o (2:Nat)),(o (3:Nat)),(rg1),(.map ⟨true,[(.int .i64),(.int .u32),(.int .u32),(.int .i64),(.int .i64)]⟩ (lk) (es) (ck)),(.cells [(.val (.int .i64 20)),(.val (.int .i64 100)),(.val (.int .i64 (if n>now then n else now))),(.map 5),(.ptr 4 0),(.val (.int .i64 (came))),(.val (.int .i64 (went)))]),(o (7:Nat)),(o (8:Nat)),(o (9:Nat)),(o (10:Nat)),(o (11:Nat)),(o (12:Nat)),(o (13:Nat)),(o (14:Nat)),(o (15:Nat))]++(ap x2++ [(z),(.cells [(.val (.int .i64 (fst f))),(.val (.int .u32 (fst (snd f)))),(.val (.int .u32 (fst (snd (snd f))))),(.val (.int .i64 (fst (snd (snd (snd f)))))),(.val (.int .i64 (snd (snd (snd (snd f))))))]),(.cells [(.val (.int .i64 0)),(.val (.int .u32 0)),(.val (.int .u32 0)),(.val (.int .i64 0)),(.val (.int .i64 0)),(.val (.int .i64 0)),(.val (.int .i64 0))]),(.cells [(.val (.int .i64 0)),(.val (.int .u32 0)),(.val (.int .u32 0)),(.val (.int .i64 0)),(.val (.int .i64 0)),(.val (.int .i64 0)),(.val (.int .i64 0))])]),[]⟩))∧
 Q Ec ⟨[(o (0:Nat)),(o (1:Nat)),(o (2:Nat)),(o (3:Nat)),(rg3),(.map ⟨true,[(.int .i64),(.int .u32),(.int .u32),(.int .i64),(.int .i64)]⟩ (lk) (es) (ck)),(.cells [(.val (.int .i64 20)),(.val (.int .i64 100)),(.val (.int .i64 (if n>now then n else now))),(.map 5),(.ptr 4 0),(.val (.int .i64 (came))),(.val (.int .i64 (went)))]),(o (7:Nat)),(o (8:Nat)),(o (9:Nat)),(o (10:Nat)),(o (11:Nat)),(o (12:Nat)),(o (13:Nat)),(o (14:Nat)),(o (15:Nat))]++(ap x3++ [(z),(.cells [(.val (.int .i64 (fst f))),(.val (.int .u32 (fst (snd f)))),(.val (.int .u32 (fst (snd (snd f))))),(.val (.int .i64 (fst (snd (snd (snd f)))))),(.val (.int .i64 (snd (snd (snd (snd f))))))]),(.cells [(.val (.int .i64 0)),(.val (.int .u32 0)),(.val (.int .u32 0)),(.val (.int .i64 0)),(.val (.int .i64 0)),(.val (.int .i64 0)),(.val (.int .i64 0))]),(.cells [(.val (.int .i64 0)),(.val (.int .u32 0)),(.val (.int .u32 0)),(.val (.int .i64 0)),(.val (.int .i64 0)),(.val (.int .i64 0)),(.val (.int .i64 0))])]),[]⟩)))):=by kernel_rfl
theorem IK (o:Nat→VO)(rg:VO)(lk:Value→Option TV)(es:Es)(ck:Nat)(now came went:Int)(x:Nat→VO)(z:VO)(rg1 rg3 lk3:VO)(lk1:Value→Option TV)(es1:Es)(ck1:Nat)(now1 came1 went1:Int)(x1 x3:Nat→VO)(f:Fl)(en:En)(q:Bool)(b n:Int)(Pre Pre2:VT→Prop)(Q:TV→VT→Prop):aK prog ae (aE [(Fv,KY Pre en q rg1 (.map kF lk1 es1 ck1) (l7 now1 came1 went1) x1),(zr,KW 121 Pre2 rg3 x3 lk3)]) (bw [(999998,.dead,none),(25,.val (.pointer none),none)]) 300 bq 0 ve [.ptr 6 0,.agg (bo f),.val (.int .i64 b),.val (.int .i64 n)] (fy o rg lk es ck now came went x [z]) Q=
 (cT prog (λ_=>.none) ⟨[(o (0:Nat)),(o (1:Nat)),(o (2:Nat)),(o (3:Nat)),(rg),(.map ⟨true,[(.int .i64),(.int .u32),(.int .u32),(.int .i64),(.int .i64)]⟩ (lk) (es) (ck)),(.cells [(.val (.int .i64 20)),(.val (.int .i64 100)),(.val (.int .i64 (if n>now then n else now))),(.map 5),(.ptr 4 0),(.val (.int .i64 (came))),(.val (.int .i64 (went)))]),(o (7:Nat)),(o (8:Nat)),(o (9:Nat)),(o (10:Nat)),(o (11:Nat)),(o (12:Nat)),(o (13:Nat)),(o (14:Nat)),(o (15:Nat))]++(ap x++ [(z),(.cells [(.val (.int .i64 (fst f))),(.val (.int .u32 (fst (snd f)))),(.val (.int .u32 (fst (snd (snd f))))),(.val (.int .i64 (fst (snd (snd (snd f)))))),(.val (.int .i64 (snd (snd (snd (snd f))))))]),(.cells [(.val (.int .i64 0)),(.val (.int .u32 0)),(.val (.int .u32 0)),(.val (.int .i64 0)),(.val (.int .i64 0)),(.val (.int .i64 0)),(.val (.int .i64 0))]),(.cells [(.val (.int .i64 0)),(.val (.int .u32 0)),(.val (.int .u32 0)),(.val (.int .i64 0)),(.val (.int .i64 0)),(.val (.int .i64 0)),(.val (.int .i64 0))])]),[]⟩ false (.lookup 97 (.tmp 23) (.tmp 24) false) [(23,(.map 5)),(24,(hZ (fst f) (fst (snd f)) (fst (snd (snd f))) (fst (snd (snd (snd f)))) (snd (snd (snd (snd f))))))] (.val (.pointer .none))∧
 (((@Eq (Nat) 0 0)∧
 ((@Eq (List TV) [hP] [hP])∧
 Pre ⟨[(o (0:Nat)),(o (1:Nat)),(o (2:Nat)),(o (3:Nat)),(rg),(.map ⟨true,[(.int .i64),(.int .u32),(.int .u32),(.int .i64),(.int .i64)]⟩ (lk) (es) (ck)),(.cells [(.val (.int .i64 20)),(.val (.int .i64 100)),(.val (.int .i64 (if n>now then n else now))),(.map 5),(.ptr 4 0),(.val (.int .i64 (came))),(.val (.int .i64 (went)))]),(o (7:Nat)),(o (8:Nat)),(o (9:Nat)),(o (10:Nat)),(o (11:Nat)),(o (12:Nat)),(o (13:Nat)),(o (14:Nat)),(o (15:Nat))]++(ap x++ [(z),(.cells [(.val (.int .i64 (fst f))),(.val (.int .u32 (fst (snd f)))),(.val (.int .u32 (fst (snd (snd f))))),(.val (.int .i64 (fst (snd (snd (snd f)))))),(.val (.int .i64 (snd (snd (snd (snd f))))))]),(.cells [(.val (.int .i64 0)),(.val (.int .u32 0)),(.val (.int .u32 0)),(.val (.int .i64 0)),(.val (.int .i64 0)),(.val (.int .i64 0)),(.val (.int .i64 0))]),(.cells [(.val (.int .i64 0)),(.val (.int .u32 0)),(.val (.int .u32 0)),(.val (.int .i64 0)),(.val (.int .i64 0)),(.val (.int .i64 0)),(.val (.int .i64 0))])]),[]⟩))∧
 (((@Eq (Nat) 0 0)∧
 ((@Eq (List TV) [hP,(.ptr 121 0)] [hP,(.ptr 121 0)])∧
 Pre2 ⟨[(o (0:Nat)),(o (1:Nat)),(o (2:Nat)),(o (3:Nat)),(rg1),(.map ⟨true,[(.int .i64),(.int .u32),(.int .u32),(.int .i64),(.int .i64)]⟩ (λkk=>(bif aj
  ((λvs=>Value.agg (toArray vs))
    ((λx=>Value.int i64 (fst f)::x) ((λx=>Value.int u32 (fst (snd f))::x) ((λx=>Value.int u32 (fst (snd (snd f)))::x) ((λx=>Value.int i64 (fst (snd (snd (snd f))))::x) ((λx=>Value.int i64 (snd (snd (snd (snd f))))::x) []))))))
  kk then (.some (.ptr 121 0)) else (lk1 kk))) (bt (.agg #[(.int .i64 (fst f)),(.int .u32 (fst (snd f))),(.int .u32 (fst (snd (snd f)))),(.int .i64 (fst (snd (snd (snd f))))),(.int .i64 (snd (snd (snd (snd f)))))]) (.ptr 121 0) (ck1) (es1)) (match
  lk1
    ((λvs=>Value.agg (toArray vs))
      ((λx=>Value.int i64 (fst f)::x) ((λx=>Value.int u32 (fst (snd f))::x) ((λx=>Value.int u32 (fst (snd (snd f)))::x) ((λx=>Value.int i64 (fst (snd (snd (snd f))))::x) ((λx=>Value.int i64 (snd (snd (snd (snd f))))::x) [])))))) with
|some val=>ck1
|none=>ck1+(1:Nat))),(.cells [(.val (.int .i64 20)),(.val (.int .i64 100)),(.val (.int .i64 (now1))),(.map 5),(.ptr 4 0),(.val (.int .i64 (wrap i64 (came1+(1:Int))))),(.val (.int .i64 (went1)))]),(o (7:Nat)),(o (8:Nat)),(o (9:Nat)),(o (10:Nat)),(o (11:Nat)),(o (12:Nat)),(o (13:Nat)),(o (14:Nat)),(o (15:Nat))]++(ap x1++ [(z),(.cells [(.val (.int .i64 (fst f))),(.val (.int .u32 (fst (snd f)))),(.val (.int .u32 (fst (snd (snd f))))),(.val (.int .i64 (fst (snd (snd (snd f)))))),(.val (.int .i64 (snd (snd (snd (snd f))))))]),(.cells [(.val (.int .i64 0)),(.val (.int .u32 0)),(.val (.int .u32 0)),(.val (.int .i64 0)),(.val (.int .i64 0)),(.val (.int .i64 0)),(.val (.int .i64 0))]),(.cells [(.val (.int .i64 (fst (fst en)))),(.val (.int .u32 (fst (snd (fst en))))),(.val (.int .u32 (fst (snd (snd (fst en)))))),(.val (.int .i64 (fst (snd (snd (snd (fst en))))))),(.val (.int .i64 (snd (snd (snd (snd (fst en))))))),(.val (.int .i64 (fst (snd en)))),(.val (.int .i64 (snd (snd en))))]),(.cells [(.val (.int .i64 (fst f))),(.val (.int .u32 (fst (snd f)))),(.val (.int .u32 (fst (snd (snd f))))),(.val (.int .i64 (fst (snd (snd (snd f)))))),(.val (.int .i64 (snd (snd (snd (snd f)))))),(.val (.int .i64 (b))),(.val (.int .i64 0)),(.val (.pointer .none)),(.val (.pointer .none))])]),[]⟩))∧
 Q (.tup [(wX (fst (fst en)) (fst (snd (fst en))) (fst (snd (snd (fst en)))) (fst (snd (snd (snd (fst en))))) (snd (snd (snd (snd (fst en))))) (fst (snd en)) (snd (snd en))),(eF q)]) ⟨[(o (0:Nat)),(o (1:Nat)),(o (2:Nat)),(o (3:Nat)),(rg3),(.map ⟨true,[(.int .i64),(.int .u32),(.int .u32),(.int .i64),(.int .i64)]⟩ (λkk=>(bif aj
  ((λvs=>Value.agg (toArray vs))
    ((λx=>Value.int i64 (fst f)::x) ((λx=>Value.int u32 (fst (snd f))::x) ((λx=>Value.int u32 (fst (snd (snd f)))::x) ((λx=>Value.int i64 (fst (snd (snd (snd f))))::x) ((λx=>Value.int i64 (snd (snd (snd (snd f))))::x) []))))))
  kk then (.some (.ptr 121 0)) else (lk1 kk))) (bt (.agg #[(.int .i64 (fst f)),(.int .u32 (fst (snd f))),(.int .u32 (fst (snd (snd f)))),(.int .i64 (fst (snd (snd (snd f))))),(.int .i64 (snd (snd (snd (snd f)))))]) (.ptr 121 0) (ck1) (es1)) (match
  lk1
    ((λvs=>Value.agg (toArray vs))
      ((λx=>Value.int i64 (fst f)::x) ((λx=>Value.int u32 (fst (snd f))::x) ((λx=>Value.int u32 (fst (snd (snd f)))::x) ((λx=>Value.int i64 (fst (snd (snd (snd f))))::x) ((λx=>Value.int i64 (snd (snd (snd (snd f))))::x) [])))))) with
|some val=>ck1
|none=>ck1+(1:Nat))),(.cells [(.val (.int .i64 20)),(.val (.int .i64 100)),(.val (.int .i64 (now1))),(.map 5),(.ptr 4 0),(.val (.int .i64 (wrap i64 (came1+(1:Int))))),(.val (.int .i64 (went1)))]),(o (7:Nat)),(o (8:Nat)),(o (9:Nat)),(o (10:Nat)),(o (11:Nat)),(o (12:Nat)),(o (13:Nat)),(o (14:Nat)),(o (15:Nat))]++(ap x3++ [(z),(.cells [(.val (.int .i64 (fst f))),(.val (.int .u32 (fst (snd f)))),(.val (.int .u32 (fst (snd (snd f))))),(.val (.int .i64 (fst (snd (snd (snd f)))))),(.val (.int .i64 (snd (snd (snd (snd f))))))]),(.cells [(.val (.int .i64 (fst (fst en)))),(.val (.int .u32 (fst (snd (fst en))))),(.val (.int .u32 (fst (snd (snd (fst en)))))),(.val (.int .i64 (fst (snd (snd (snd (fst en))))))),(.val (.int .i64 (snd (snd (snd (snd (fst en))))))),(.val (.int .i64 (fst (snd en)))),(.val (.int .i64 (snd (snd en))))]),(.cells [(.val (.int .i64 (fst (fst en)))),(.val (.int .u32 (fst (snd (fst en))))),(.val (.int .u32 (fst (snd (snd (fst en)))))),(.val (.int .i64 (fst (snd (snd (snd (fst en))))))),(.val (.int .i64 (snd (snd (snd (snd (fst en))))))),(.val (.int .i64 (fst (snd en)))),(.val (.int .i64 (snd (snd en))))]),(lk3)]),[]⟩))):=by kernel_rfl
section
variable {P:Program}{G:aC}
def Gh.pickG (g:Gh)(is ks:List Nat):Gh:={g with obj:=λj=>(is[j]?).bind g.obj,tail:=λj=>(ks[j]?).bind g.tail}
theorem py (g:Gh)(is ks:List Nat):jx g (g.pickG is ks) (am is) (am ks) where
 obj i i' b h1 h2:=by simp [Gh.pickG,gQ h1,h2]
 tail k k' x h1 h2:=by simp [Gh.pickG,gQ h1,h2]
 st _ _ h:=h
theorem RW.pickG {g:Gh}{T:VT}{w:World}(r:RW g T w){is ks:List Nat}(hi:is.Nodup)(hk:ks.Nodup)(hkl:∀k∈ks,k<T.tails.length):
  RW (g.pickG is ks) (T.give is ks) w:=by
 have k:=py g is ks
 have hobj:∀(j:Nat) o,(T.give is ks).objs[j]?=some o→o.live=true→∃i o0,is[j]?=some i∧T.objs[i]?=some o0∧o0.live=true∧o=o0.ren (am is) (am ks):=by
  intro j o h hl
  simp only [VT.give,getElem?_map,Option.map_eq_some_iff] at h
  obtain ⟨i,h1,rfl⟩:=h
  rw [VO.ren_live] at hl
  cases h2:T.objs[i]? with
  |none=>rw [h2] at hl;cases hl
  |some o0=>rw [h2] at hl;exact ⟨i,o0,h1,h2,hl,by simp⟩
 have hsub:∀(j:Nat) x,(g.pickG is ks).tail j=some x→∃k0,ks[j]?=some k0∧g.tail k0=some x:=λj x h=>by simpa [Gh.pickG,Option.bind_eq_some_iff] using h
 refine ⟨?_,?_,?_,r.st,r.fr,?_,?_,?_,?_,?_,?_,?_⟩
 ·intro j o h hl
  obtain ⟨i,o0,h1,h2,h3,rfl⟩:=hobj j o h hl
  obtain ⟨b,h4,h5,h6,h7⟩:=r.obj i o0 h2 h3
  exact ⟨b,by simp [Gh.pickG,h1,h4],h5.ren k,h6,h7⟩
 ·intro i j oi oj b h1 l1 h2 l2 b1 b2
  obtain ⟨i0,o1,a1,a2,a3,rfl⟩:=hobj i oi h1 l1
  obtain ⟨j0,o2,c1,c2,c3,rfl⟩:=hobj j oj h2 l2
  simp only [Gh.pickG,a1,c1,Option.bind_some] at b1 b2
  have:=r.inj i0 j0 o1 o2 b a2 a3 c2 c3 b1 b2
  subst this
  exact iW hi a1 c1
 ·intro id hid
  simp only [VT.give,length_map] at hid
  simp [Gh.pickG,getElem?_eq_none hid]
 ·intro j p h
  simp only [VT.give,getElem?_map,Option.map_eq_some_iff] at h
  obtain ⟨k0,h1,rfl⟩:=h
  have hlt:=hkl k0 (List.mem_of_getElem? h1)
  obtain ⟨x,h2,h3,h4,h5⟩:=r.tl k0 _ (getElem?_eq_getElem hlt)
  refine ⟨x,by simp [Gh.pickG,h1,h2],?_,?_,h5⟩
  ·rw [getElem?_eq_getElem hlt];exact h3
  ·rw [getElem?_eq_getElem hlt];exact h4
 ·intro j hj
  simp only [VT.give,length_map] at hj
  simp [Gh.pickG,getElem?_eq_none hj]
 ·intro i j x y b h1 h2 i1 i2
  obtain ⟨i0,a1,a2⟩:=hsub i x h1
  obtain ⟨j0,c1,c2⟩:=hsub j y h2
  have:=r.tinj i0 j0 x y b a2 c2 i1 i2
  subst this
  exact iW hk a1 c1
 ·intro i oi b j x h1 l1 b1 hx hin
  obtain ⟨i0,o1,a1,a2,a3,rfl⟩:=hobj i oi h1 l1
  obtain ⟨j0,c1,c2⟩:=hsub j x hx
  simp only [Gh.pickG,a1,Option.bind_some] at b1
  exact r.tobj i0 o1 b j0 x a2 a3 b1 c2 hin
 ·intro j x hx
  obtain ⟨j0,c1,c2⟩:=hsub j x hx
  exact r.own j0 x c2
 ·intro j x hx
  obtain ⟨j0,c1,c2⟩:=hsub j x hx
  exact r.own0 j0 x c2
 ·intro j x hx
  obtain ⟨j0,c1,c2⟩:=hsub j x hx
  exact r.tlo j0 x c2
theorem Evo.pickG {g0 g:Gh}{T0:VT}{w0 w:World}(r0:RW g0 T0 w0)(e:Evo g0 w0 g w){is ks:List Nat}(hp:∀j,j<T0.objs.length→is[j]?=some j)(hq:∀j,j<T0.tails.length→ks[j]?=some j)(hk:ks.Nodup):Evo g0 w0 (g.pickG is ks) w:=by
 refine ⟨e.os,e.tape,e.output,e.size,λid b hb=> ?_,e.st,e.fr,e.frb,e.frs,λk x hx=> ?_,λk x h1 h2=> ?_,e.csz⟩
 ·simp only [Gh.pickG,hp id (vU r0 hb),Option.bind_some];exact e.obj id b hb
 ·simp only [Gh.pickG,hq k (kj r0 hx),Option.bind_some];exact e.tail k x hx
 ·simp only [Gh.pickG,Option.bind_eq_some_iff] at h2
  obtain ⟨k0,h3,h4⟩:=h2
  refine e.tnew k0 x ?_ h4
  by_cases hlt:k0<T0.tails.length
  ·have:=iW hk h3 (hq k0 hlt)
   subst this;exact h1
  ·exact r0.tout k0 (by omega)
end
section
variable {g:Gh}{w:World}
end
section
variable {P:Program}{G:aC}
end
section
variable {P:Program}{G:aC}
theorem VCx.pick {f:FuncId}{xs:List TV}{T:VT}{Q:TV→VT→Prop}(h:VCx P G 0 f xs T λx T'=>∃is ks:List Nat,(is.Nodup∧ks.Nodup∧(∀i∈is,i<T'.objs.length)∧(∀k∈ks,k<T'.tails.length)∧(∀j,j<T.objs.length→is[j]?=some j)∧(∀j,j<T.tails.length→ks[j]?=some j))∧Q (x.ren (am is) (am ks)) (T'.give is ks)):VCx P G 0 f xs T Q:=by
 intro g w us rw0 hG hx
 refine Calls.mono (h g w us rw0 hG hx) ?_
 rintro e w' ⟨v,x,g',T',he,⟨is,ks,⟨b1,b2,b3,b4,hp,hq0⟩,hq⟩,e',r',hv,hfx⟩
 refine ⟨v,_,g'.pickG is ks,T'.give is ks,he,hq,Evo.pickG rw0 e' hp hq0 b2,r'.pickG b1 b2 b4,hv.ren (py g' is ks),?_,λi hi=>absurd hi (not_lt_zero i),λi o b hi=>absurd hi (not_lt_zero i)⟩
 simp only [VT.give,length_map]
 rcases Nat.eq_zero_or_pos T.objs.length with h0 | h0
 ·omega
 ·have:=(List.getElem?_eq_some_iff.1 (hp (T.objs.length-1) (by omega))).1
  omega
end
section
variable {P:Program}{G:aC}{g:Gh}{T:VT}{w:World}
def VT.pad (T:VT)(k:Nat):VT:=⟨T.objs++List.replicate k .gone,T.tails⟩
theorem sS {k i:Nat}{o:VO}(h:(T.pad k).objs[i]?=some o)(hl:o.live=true):T.objs[i]?=some o:=by
 simp only [VT.pad] at h
 rcases lt_or_ge i T.objs.length with hi | hi
 ·rw [getElem?_append_left hi] at h;exact h
 ·rw [getElem?_append_right hi,List.getElem?_replicate] at h
  split at h
  ·injection h with h;subst h;cases hl
  ·cases h
theorem RW.pad (r:RW g T w)(k:Nat):RW g (T.pad k) w:={
 obj:=λid o h hl=>r.obj id o (sS h hl) hl
 inj:=λi j oi oj b hi li hj lj=>r.inj i j oi oj b (sS hi li) li (sS hj lj) lj
 out:=λid h=>r.out id (by simp only [VT.pad,length_append,length_replicate] at h;omega)
 st:=r.st
 fr:=r.fr
 tl:=r.tl
 tout:=r.tout
 tinj:=r.tinj
 tobj:=λi oi b k x hi li=>r.tobj i oi b k x (sS hi li) li
 own:=r.own
 own0:=r.own0
 tlo:=r.tlo}
theorem VCx.pad {f:FuncId}{xs:List TV}{Q:TV→VT→Prop}(k:Nat)(h:VCx P G 0 f xs (T.pad k) Q):VCx P G 0 f xs T Q:=by
 intro g w us r hG hx
 refine Calls.mono (h g w us (r.pad k) hG hx) ?_
 rintro e w' ⟨v,x,g',T',he,hq,e',r2,hv,hfx⟩
 refine ⟨v,x,g',T',he,hq,e',r2,hv,⟨?_,λi hi=>absurd hi (not_lt_zero i),λi o b hi=>absurd hi (not_lt_zero i)⟩⟩
 have:=hfx.len
 simp only [VT.pad,length_append,length_replicate] at this;omega
theorem VWx.pad {c:Code}{σ:List TV}{D:List Nat}{Q:KX}(k:Nat)(h:VWx P G none 0 c σ (T.pad k) D Q):VWx P G none 0 c σ T D Q:=by
 intro r g w a rw0 hG hσ hd hD hr
 refine wpIn_mono (h r g w a (rw0.pad k) hG hσ hd hD hr) ?_
 rintro e a' w' ⟨g',σ',T',D',hq,e',r2,hσ',hd',hD',hfx⟩
 refine ⟨g',σ',T',D',hq,e',r2,hσ',hd',hD',⟨?_,λi hi=>absurd hi (not_lt_zero i),λi o b hi=>absurd hi (not_lt_zero i)⟩⟩
 have:=hfx.len
 simp only [VT.pad,length_append,length_replicate] at this;omega
def sU (T T':VT)(is ks:List Nat):Prop:=is.Nodup∧ks.Nodup∧(∀i∈is,i<T'.objs.length)∧(∀k∈ks,k<T'.tails.length)∧(∀j,j<T.objs.length→is[j]?=some j)∧(∀j,j<T.tails.length→ks[j]?=some j)
theorem VWx.pickT {c:Code}{σ:List TV}{Q:KX}(h:VWx P G none 0 c σ T [] λe σ' T' D'=>D'= []∧∃is ks:List Nat,sU T T' is ks∧Q e (ay (am is) (am ks) σ') (T'.give is ks) []):VWx P G none 0 c σ T [] Q:=by
 intro r g w a rw0 hG hσ hd hD hr
 refine wpIn_mono (h r g w a rw0 hG hσ hd hD hr) ?_
 rintro e a' w' ⟨g',σ',T',D',⟨rfl,is,ks,⟨b1,b2,b3,b4,hp,hq0⟩,hq⟩,e',r2,hσ',hd',hD',hfx⟩
 refine ⟨g'.pickG is ks,_,T'.give is ks,[],hq,Evo.pickG rw0 e' hp hq0 b2,r2.pickG b1 b2 b4,hσ'.ren (py g' is ks),by simpa using hd',by simp,?_,λi hi=>absurd hi (not_lt_zero i),λi o b hi=>absurd hi (not_lt_zero i)⟩
 simp only [VT.give,length_map]
 rcases Nat.eq_zero_or_pos T.objs.length with h0 | h0
 ·omega
 ·have:=(List.getElem?_eq_some_iff.1 (hp (T.objs.length-1) (by omega))).1
  omega
theorem VCx.padQ {f:FuncId}{xs:List TV}{Q:TV→VT→Prop}(h:VCx P G 0 f xs T λx T'=>∃k,Q x (T'.pad k)):VCx P G 0 f xs T Q:=by
 intro g w us r hG hx
 refine Calls.mono (h g w us r hG hx) ?_
 rintro e w' ⟨v,x,g',T',he,⟨k,hq⟩,e',r2,hv,hfx⟩
 refine ⟨v,x,g',T'.pad k,he,hq,e',r2.pad k,hv,⟨?_,λi hi=>absurd hi (not_lt_zero i),λi o b hi=>absurd hi (not_lt_zero i)⟩⟩
 have:=hfx.len
 simp only [VT.pad,length_append,length_replicate];omega
theorem VWx.padQ {c:Code}{σ:List TV}{D:List Nat}{Q:KX}(h:VWx P G none 0 c σ T D λe σ' T' D'=>∃k,Q e σ' (T'.pad k) D'):VWx P G none 0 c σ T D Q:=by
 intro r g w a rw0 hG hσ hd hD hr
 refine wpIn_mono (h r g w a rw0 hG hσ hd hD hr) ?_
 rintro e a' w' ⟨g',σ',T',D',⟨k,hq⟩,e',r2,hσ',hd',hD',hfx⟩
 refine ⟨g',σ',T'.pad k,D',hq,e',r2.pad k,hσ',hd',hD',⟨?_,λi hi=>absurd hi (not_lt_zero i),λi o b hi=>absurd hi (not_lt_zero i)⟩⟩
 have:=hfx.len
 simp only [VT.pad,length_append,length_replicate];omega
theorem iz {m i:Nat}(h:i<m)(l:List Nat):am (List.range m++l) i=some i:=by
 unfold am
 rw [List.idxOf?_eq_some_iff]
 refine ⟨by simp;omega,?_,λj hj=> ?_⟩
 ·rw [List.getElem_append_left (by simpa using h)];simp
 ·have hj':j<i:=hj
  rw [List.getElem_append_left (by simp;omega)]
  simp;omega
theorem CR {m e:Nat}(h:m≤e):am (List.range m++ [e]) e=some m:=by
 unfold am
 rw [List.idxOf?_eq_some_iff]
 refine ⟨by simp,?_,λj hj=> ?_⟩
 ·rw [List.getElem_append_right (by simp)];simp
 ·have hj':j<m:=hj
  rw [List.getElem_append_left (by simpa using hj')]
  simp;omega
theorem pz {α β:Type}(F:α→β)(d:α):∀(k:Nat) (L:List α),k≤L.length→(List.range k).map (λi=>F (L[i]?.getD d))=(L.take k).map F:=by
 intro k L hk
 apply ext_getElem?
 intro j
 rw [getElem?_map,getElem?_map,List.getElem?_take]
 by_cases hj:j<k
 ·rw [List.getElem?_range hj,if_pos hj]
  have:L[j]?=some L[j]:=getElem?_eq_getElem (by omega)
  simp only [map_some,this,getD_some]
 ·rw [if_neg hj,getElem?_eq_none (by simpa using hj)];rfl
theorem CS {keys:List Nat}{Q:Exit→List TV→VT→List Nat→Nat→Prop}(f h:Nat→Option Nat)(e:Exit)(σ:List TV)(T:VT):dl keys Q e (ay f h σ) T [] ↔ Q e (ay f h (pick keys σ)) T [] σ.length:=by
 have e1:pick keys (ay f h σ)=ay f h (pick keys σ):=by
  unfold pick
  rw [c7,c7,map_map]
  refine List.map_congr_left λk _=> ?_
  simp only [comp,List.getD_eq_getElem?_getD,getElem?_map]
  cases σ[k]?<;>rfl
 have e2:(ay f h σ).length=σ.length:=by rw [c7,length_map]
 unfold dl
 rw [e1,e2]
end
set_option maxRecDepth 100000
section
open Go.RowKit Go.Maps Go.Sort
def dj (e:En)(u v:TV):VO:=.cells (aP e++ [u,v])
def cW (e:En)(a c:Nat):VO:=dj e (.ptr a 0) (.ptr c 0)
def mr (T:VT)(p:Nat)(e:En)(a c:Nat):Prop:=T.objs[p]?=some (cW e a c)
def fm (V:Nat→Prop)(T:VT):Prop:=∀p,V p→∃e a c,mr T p e a c∧V a∧V c
def cD (T:VT)(p:Nat)(o:VO):VT:={T with objs:=T.objs.set p o}
structure Kp (V:Nat→Prop) (T T':VT):Prop where
 len:T'.objs.length=T.objs.length
 tails:T'.tails=T.tails
 off:∀i,¬V i→T'.objs[i]?=T.objs[i]?
 kept:∀q e u v,V q→T.objs[q]?=some (dj e u v)→∃e' u' v',T'.objs[q]?=some (dj e' u' v')∧e'.1=e.1∧e'.2.1=e.2.1
theorem Kp.refl (V:Nat→Prop)(T:VT):Kp V T T:=⟨rfl,rfl,λ_ _=>rfl,λq e u v _ h=>⟨e,u,v,h,rfl,rfl⟩⟩
theorem Kp.trans {V:Nat→Prop}{T T1 T2:VT}(h:Kp V T T1)(k:Kp V T1 T2):Kp V T T2:=
 ⟨k.len.trans h.len,k.tails.trans h.tails,λi hi=>(k.off i hi).trans (h.off i hi),λq e u v hq hl=>by
  obtain ⟨e1,u1,v1,h1,h2,h3⟩:=h.kept q e u v hq hl
  obtain ⟨e2,u2,v2,k1,k2,k3⟩:=k.kept q e1 u1 v1 hq h1
  exact ⟨e2,u2,v2,k1,k2.trans h2,k3.trans h3⟩⟩
theorem tY {e e':En}{u v u' v':TV}(h:dj e u v=dj e' u' v'):e=e'∧u=u'∧v=v':=by
 obtain ⟨⟨a1,a2,a3,a4,a5⟩,a6,a7⟩:=e
 obtain ⟨⟨b1,b2,b3,b4,b5⟩,b6,b7⟩:=e'
 simp only [dj,aP,iU,bo,bV,cons_append,nil_append,VO.cells.injEq,List.cons.injEq,TV.val.injEq,Value.int.injEq,true_and,and_true] at h
 obtain ⟨rfl,rfl,rfl,rfl,rfl,rfl,rfl,rfl,rfl⟩:=h
 exact ⟨rfl,rfl,rfl⟩
theorem jM {T:VT}{p q:Nat}{o:VO}(hp:p<T.objs.length):(cD T p o).objs[q]?=if p=q then some o else T.objs[q]?:=by
 simp only [cD,getElem?_set]
 split
 ·first | rfl | rw [if_pos hp]
 ·rfl
theorem l8 {T:VT}{p:Nat}{o:VO}(h:T.objs[p]?=some o):p<T.objs.length:=(List.getElem?_eq_some_iff.1 h).1
theorem sV {V:Nat→Prop}{T:VT}{p:Nat}{e e':En}{u v u' v':TV}(hp:V p)(h:T.objs[p]?=some (dj e u v))(h1:e'.1=e.1)(h2:e'.2.1=e.2.1):Kp V T (cD T p (dj e' u' v')) where
 len:=by simp [cD]
 tails:=rfl
 off:=λi hi=>by rw [jM (l8 h),if_neg λ(k:p=i)=>hi (k▸hp)]
 kept:=λq e0 u0 v0 hq hl=>by
  rw [jM (l8 h)]
  split
  ·rename_i hpq;subst hpq
   rw [h] at hl;injection hl with hl
   obtain ⟨rfl,_,_⟩:=tY hl
   exact ⟨e',u',v',rfl,h1,h2⟩
  ·exact ⟨e0,u0,v0,hl,rfl,rfl⟩
theorem lp {V:Nat→Prop}{T:VT}{p:Nat}{e:En}{a c:Nat}(h:fm V T)(hp:p<T.objs.length)(ha:V a)(hc:V c):fm V (cD T p (cW e a c)):=λq hq=>by
 obtain ⟨e1,a1,c1,h1,h2,h3⟩:=h q hq
 unfold mr at h1 ⊢
 by_cases hpq:p=q
 ·exact ⟨e,a,c,by rw [jM hp,if_pos hpq],ha,hc⟩
 ·exact ⟨e1,a1,c1,by rw [jM hp,if_neg hpq];exact h1,h2,h3⟩
theorem CT {T:VT}{t:TypeId}{d:TypeDesc}{a:Operand}{l:List (Nat × TV)}{inf:TypeInfo}{id off:Nat}{cs:List TV}{y:TV}(ht:prog.underlying t=some d)(hd:fP d=false)(hi:prog.info? t=some inf)
  (ha:au ae l a=.ptr id off) (ho:T.objs[id]?=some (.cells cs)) (hy:cs[off]?=some y):cT prog ae T false (.load t a) l y:=by
 refine .mk ?_
 have hlt:=(List.getElem?_eq_some_iff.1 hy).1
 have hc:bJ T (.ptr id off) 1=some [y]:=by
  simp only [bJ,ho]
  rw [if_pos (by omega)]
  congr 1
  rw [take_one,head?_drop,hy];rfl
 simp [iK,aR,cM,aH,cL,eJ,ht,hi,hd,ha,hc]
theorem xN:∃inf:TypeInfo,prog.info? 96=some inf∧inf.size=1:=
 ⟨(prog.info? 96).getD default,by kernel_rfl,by kernel_rfl⟩
theorem CU:∃inf:TypeInfo,prog.info? 3=some inf∧inf.size=1:=
 ⟨(prog.info? 3).getD default,by kernel_rfl,by kernel_rfl⟩
theorem fp {T:VT}{a:Operand}{l:List (Nat × TV)}{id off:Nat}{cs:List TV}{y:TV}(ha:au ae l a=.ptr id off)(ho:T.objs[id]?=some (.cells cs))(hy:cs[off]?=some y):cT prog ae T false (.load 96 a) l y:=by
 obtain ⟨inf,i1,_⟩:=xN
 exact CT Tryz.underlying96 rfl i1 ha ho hy
theorem xO {T:VT}{a x:Operand}{l:List (Nat × TV)}{id off q:Nat}{cs:List TV}(ha:au ae l a=.ptr id off)(hx:au ae l x=.ptr q 0)(ho:T.objs[id]?=some (.cells cs))(hle:off+1≤cs.length):aN prog ae 0 T (.store 96 a x) l (.val undef) (cD T id (.cells (cs.set off (.ptr q 0)))):=by
 obtain ⟨inf,i1,i2⟩:=xN
 have h:=ll (P:=prog) (G:=ae) (ro:=0) (T:=T) (t:=96) (a:=a) (x:=x) (l:=l) (new:= [.ptr q 0]) i1 ha (by rw [hx];rfl) ho (by rw [i2];rfl) hle rfl (zero_le _)
 rw [pv _ _ _ (by omega)] at h
 exact h
theorem A8 {T:VT}{x y:Operand}{l:List (Nat × TV)}{a q:Nat}{e:En}{u v:TV}(ha:au ae l x=.ptr a 8)(hx:au ae l y=.ptr q 0)(h:T.objs[a]?=some (dj e u v)):aN prog ae 0 T (.store 96 x y) l (.val undef) (cD T a (dj e u (.ptr q 0))):=
 xO (cs:=aP e++ [u,v]) ha hx h (by show 9≤9;decide)
theorem A9 {T:VT}{x y:Operand}{l:List (Nat × TV)}{a q:Nat}{e:En}{u v:TV}(ha:au ae l x=.ptr a 7)(hx:au ae l y=.ptr q 0)(h:T.objs[a]?=some (dj e u v)):aN prog ae 0 T (.store 96 x y) l (.val undef) (cD T a (dj e (.ptr q 0) v)):=
 xO (cs:=aP e++ [u,v]) ha hx h (by show 8≤9;decide)
theorem zt {V:Nat→Prop}{T:VT}{p:Nat}(h:fm V T)(hp:V p):∃T2,fm V T2∧Kp V T T2∧VCx prog ae 0 zq [.ptr p 0] T λx T'=>x=.tup []∧T'=T2:=by
 obtain ⟨e,a,c,h1,ha,hc⟩:=h p hp
 obtain ⟨ea,aa,ca,h2,haa,hca⟩:=h a ha
 have r1:fm V (cD T a (cW ea aa c)):=lp h (l8 h2) haa hc
 have k1:Kp V T (cD T a (cW ea aa c)):=sV ha h2 rfl rfl
 obtain ⟨ec,ac,cc,h3,hac,hcc⟩:=r1 c hc
 have r2:=lp (e:=ec) (a:=a) (c:=cc) r1 (l8 h3) ha hcc
 have k2:Kp V (cD T a (cW ea aa c)) (cD (cD T a (cW ea aa c)) c (cW ec a cc)):=sV hc h3 rfl rfl
 refine ⟨_,r2,k1.trans k2,an ah ag aw ak (Kc T (cD T a (cW ea aa c)) (cD (cD T a (cW ea aa c)) c (cW ec a cc)) p a c _) ?_⟩
 exact ⟨fp rfl h1 rfl,fp rfl h1 rfl,fp rfl h1 rfl,fp rfl h1 rfl,A8 rfl rfl h2,A9 rfl rfl h3,rfl,rfl⟩
theorem xP {V:Nat→Prop}{T:VT}{p:Nat}{now came went:Int}{e:En}{u v:TV}(h:fm V T)(ht:T.objs[6]?=some (l7 now came went))(h4:V 4)(h6:¬V 6)(hp6:p≠6)(hp4:p≠4)(hp:T.objs[p]?=some (dj e u v))(hu:dB u=true)(hv:dB v=true):
  ∃T2,fm (λq=>V q∨q=p) T2∧Kp (λq=>V q∨q=p) T T2∧VCx prog ae 0 zr [.ptr 6 0,.ptr p 0] T λx T'=>x=.tup []∧T'=T2:=by
 let e':En:=(e.1,e.2.1,now)
 obtain ⟨er,a,cr,q1,ha,hcr⟩:=h 4 h4
 have hlt:=l8 hp
 let T1:=cD T p (dj e' u v)
 let T2:=cD T1 p (dj e' (.ptr a 0) v)
 let T3:=cD T2 p (cW e' a 4)
 have l1:p<T1.objs.length:=by simp [T1,cD];exact hlt
 have l2:p<T2.objs.length:=by simp [T2,T1,cD];exact hlt
 have a1:∀q,T1.objs[q]?=if p=q then some (dj e' u v) else T.objs[q]?:=λq=>jM hlt
 have a2:∀q,T2.objs[q]?=if p=q then some (dj e' (.ptr a 0) v) else T.objs[q]?:=λq=>by
  rw [show T2.objs[q]?=_ from jM l1]
  split
  ·rfl
  ·rename_i hn;rw [a1,if_neg hn]
 have a3:∀q,T3.objs[q]?=if p=q then some (cW e' a 4) else T.objs[q]?:=λq=>by
  rw [show T3.objs[q]?=_ from jM l2]
  split
  ·rfl
  ·rename_i hn;rw [a2,if_neg hn]
 have r3:fm (λq=>V q∨q=p) T3:=λq hq=>by
  by_cases hpq:p=q
  ·exact ⟨e',a,4,by unfold mr;rw [a3,if_pos hpq],.inl ha,.inl h4⟩
  ·rcases hq with hq | hq
   ·obtain ⟨e1,b1,c1,g1,g2,g3⟩:=h q hq
    exact ⟨e1,b1,c1,by unfold mr;rw [a3,if_neg hpq];exact g1,.inl g2,.inl g3⟩
   ·exact absurd hq.symm hpq
 have k3:Kp (λq=>V q∨q=p) T T3:={
  len:=by simp [T3,T2,T1,cD]
  tails:=rfl
  off:=λi hi=>by rw [a3,if_neg λk=>hi (.inr k.symm)]
  kept:=λq e0 u0 v0 hq hl=>by
   rw [a3]
   split
   ·rename_i hpq;subst hpq
    rw [hp] at hl;injection hl with hl
    obtain ⟨rfl,_,_⟩:=tY hl
    exact ⟨_,_,_,rfl,rfl,rfl⟩
   ·exact ⟨e0,u0,v0,hl,rfl,rfl⟩}
 obtain ⟨ea,aa,ca,g1,g2,g3⟩:=r3 a (.inl ha)
 have r4:=lp (e:=ea) (a:=aa) (c:=p) r3 (l8 g1) g2 (.inr rfl)
 have k4:Kp (λq=>V q∨q=p) T3 (cD T3 a (cW ea aa p)):=sV (.inl ha) g1 rfl rfl
 obtain ⟨e4,a4,c4,i1,i2,i3⟩:=r4 4 (.inl h4)
 have r5:=lp (e:=e4) (a:=p) (c:=c4) r4 (l8 i1) (.inr rfl) i3
 have k5:Kp (λq=>V q∨q=p) (cD T3 a (cW ea aa p)) (cD (cD T3 a (cW ea aa p)) 4 (cW e4 p c4)):=sV (.inl h4) i1 rfl rfl
 have t1:T1.objs[6]?=some (l7 now came went):=by rw [a1,if_neg hp6];exact ht
 have t3:T3.objs[6]?=some (l7 now came went):=by rw [a3,if_neg hp6];exact ht
 have q1':T1.objs[4]?=some (cW er a cr):=by rw [a1,if_neg hp4];exact q1
 have hp1:T1.objs[p]?=some (dj e' u v):=by rw [a1,if_pos rfl]
 have hp2:T2.objs[p]?=some (dj e' (.ptr a 0) v):=by rw [a2,if_pos rfl]
 have hp3:T3.objs[p]?=some (cW e' a 4):=by rw [a3,if_pos rfl]
 refine ⟨_,r5,(k3.trans k4).trans k5,an ah ag aw ak (Kd T T1 T2 T3 (cD T3 a (cW ea aa p)) (cD (cD T3 a (cW ea aa p)) 4 (cW e4 p c4)) p 4 a now _) ?_⟩
 obtain ⟨inf,i1',i2'⟩:=CU
 have s1:aN prog ae 0 T (.store 3 (.tmp 11) (.tmp 8)) [(11,.ptr p 6),(8,.val (.int .i64 now))] (.val undef) T1:=by
  have h:=ll (P:=prog) (G:=ae) (ro:=0) (T:=T) (t:=3) (a:=.tmp 11) (x:=.tmp 8) (l:= [(11,.ptr p 6),(8,.val (.int .i64 now))]) (id:=p) (off:=6) (cs:=aP e++ [u,v]) (new:= [.val (.int .i64 now)]) i1' rfl rfl hp (by rw [i2'];rfl) (by show 7≤9;decide) rfl (zero_le _)
  rw [pv _ _ _ (by show 6<9;decide)] at h
  exact h
 refine ⟨qQ (inf:=inf) Tryz.underlying3 rfl i1' rfl ht rfl,s1,fp rfl t1 rfl,fp rfl q1' rfl,fp rfl t1 rfl,A9 rfl rfl hp1,A8 rfl rfl hp2,fp rfl hp3 rfl,fp rfl t3 rfl,A8 rfl rfl g1,A9 rfl rfl i1,rfl,rfl⟩
end
set_option maxRecDepth 100000
section
open Go.RowKit Go.Maps Go.Sort
def dw (f:Fl):Value:=.agg #[.int .i64 f.1,.int .u32 f.2.1,.int .u32 f.2.2.1,.int .i64 f.2.2.2.1,.int .i64 f.2.2.2.2]
theorem cE (x:Nat→VO):(ap x).length=101:=by simp [ap]
theorem mZ (x:Nat→VO)(i:Nat)(h:i<101):(ap x)[i]?=some (x i):=by
 simp only [ap,getElem?_map]
 rw [List.getElem?_range h];rfl
section
variable {o:Nat→VO}{rg:VO}{lk:Value→Option TV}{es:Es}{ck:Nat}{now came went:Int}{x:Nat→VO}{y:List VO}
theorem bD:(cR o rg lk es ck now came went).length=16:=rfl
theorem gG {i:Nat}(h:i<16):(fy o rg lk es ck now came went x y).objs[i]?=(cR o rg lk es ck now came went)[i]?:=by
 simp only [fy];rw [getElem?_append_left (by rw [bD];exact h)]
theorem gk {i:Nat}(h:i<101):(fy o rg lk es ck now came went x y).objs[16+i]?=some (x i):=by
 simp only [fy]
 rw [getElem?_append_right (by rw [bD];omega),bD,show 16+i-16=i by omega,getElem?_append_left (by rw [cE];exact h),mZ x i h]
theorem gY {i:Nat}:(fy o rg lk es ck now came went x y).objs[117+i]?=y[i]?:=by
 simp only [fy]
 rw [getElem?_append_right (by rw [bD];omega),bD,getElem?_append_right (by rw [cE];omega),cE,show 117+i-16-101=i by omega]
theorem fw:(fy o rg lk es ck now came went x y).objs.length=117+y.length:=by
 simp only [fy,length_append,bD,cE];omega
theorem qj:(cR o rg lk es ck now came went++(ap x++y)).drop 117=y:=by
 rw [←append_assoc]
 exact List.drop_left' (by rw [length_append,bD,cE])
theorem xQ (rg':VO)(x':Nat→VO):Fw (fy o rg lk es ck now came went x y) rg' x'=fy o rg' lk es ck now came went x' y:=by
 simp only [Fw,fy]
 rw [take_left' bD,qj]
 rfl
theorem IL (rg':VO)(lk':Value→Option TV)(es':Es)(ck':Nat)(x':Nat→VO):Fx (fy o rg lk es ck now came went x y) rg' (.map kF lk' es' ck') x'=fy o rg' lk' es' ck' now came went x' y:=by
 simp only [Fx,fy]
 rw [take_left' bD,qj]
 rfl
theorem CV (rg':VO)(lk':Value→Option TV)(es':Es)(ck':Nat)(now' came' went':Int)(x':Nat→VO):Fy (fy o rg lk es ck now came went x y) rg' (.map kF lk' es' ck') (l7 now' came' went') x'=fy o rg' lk' es' ck' now' came' went' x' y:=by
 simp only [Fy,fy]
 rw [take_left' bD,qj]
 rfl
theorem IM (e:Nat)(rg':VO)(x':Nat→VO)(l:VO):IG (fy o rg lk es ck now came went x y) e rg' x' l=fy o rg' lk es ck now came went x' (y.set (e-117) l):=by
 simp only [IG,fy]
 rw [take_left' bD,qj]
 rfl
def co (n p:Nat):Prop:=p=4∨(16≤p∧p<16+n)
theorem nP {V:Nat→Prop}{T T':VT}(h:fm V T)(he:∀q,V q→T'.objs[q]?=T.objs[q]?):fm V T':=λq hq=>by
 obtain ⟨e,a,c,h1,h2⟩:=h q hq
 exact ⟨e,a,c,(he q hq).trans h1,h2⟩
structure FlS (n:Nat) (rg:VO) (lk:Value→Option TV) (es:Es) (x:Nat→VO):Prop where
 hn:n≤101
 ring:fm (co n) (fy (λ_=>.gone) rg (λ_=>none) [] 0 0 0 0 x [])
 none:∀i,n≤i→x i=.gone
 map:∀k v,lk k=some v→∃i,i<n∧v=.ptr (16+i) 0
 ents:∀e∈es,∃i,i<n∧e.2.1=.ptr (16+i) 0
theorem tZ {n q:Nat}{o':Nat→VO}{lk':Value→Option TV}{es':Es}{ck':Nat}{now' came' went':Int}{y':List VO}(hn:n≤101)(hq:co n q):
  (fy o' rg lk' es' ck' now' came' went' x y').objs[q]?=(fy o rg lk es ck now came went x y).objs[q]?:=by
 rcases hq with rfl | ⟨h1,h2⟩
 ·rw [gG (by decide),gG (by decide)];rfl
 ·obtain ⟨i,rfl⟩:∃i,q=16+i:=⟨q-16,by omega⟩
  rw [gk (by omega),gk (by omega)]
theorem FlS.at {n:Nat}(h:FlS n rg lk es x)(o:Nat→VO)(lk':Value→Option TV)(es':Es)(ck:Nat)(now came went:Int)(y:List VO):fm (co n) (fy o rg lk' es' ck now came went x y):=
 nP h.ring λq hq=>tZ h.hn hq
theorem FB {T2:VT}(j:Nat)(hlen:T2.objs.length=117+y.length)(htl:T2.tails= [])(hoff:∀i,i≠4→(i<16∨(117≤i∧i≠117+j))→T2.objs[i]?=(fy o rg lk es ck now came went x y).objs[i]?):
  T2=fy o (T2.objs[4]?.getD .gone) lk es ck now came went (λi=>if i<101 then T2.objs[16+i]?.getD .gone else .gone) (y.set j (T2.objs[117+j]?.getD .gone)):=by
 obtain ⟨os,tl⟩:=T2
 have e1:tl= []:=htl
 subst e1
 simp only [fy]
 congr 1
 apply ext_getElem?
 intro i
 simp only at hlen
 rcases lt_or_ge i 16 with h1 | h1
 ·rw [getElem?_append_left (by rw [bD];exact h1)]
  by_cases h4:i=4
  ·subst h4
   have:os[4]?=some os[4]:=getElem?_eq_getElem (by omega)
   rw [this];rfl
  ·have:=hoff i h4 (.inl h1)
   rw [gG h1] at this
   rw [show os[i]?=_ from this]
   match i,h1,h4 with
   | 0,_,_=>rfl
   | 1,_,_=>rfl
   | 2,_,_=>rfl
   | 3,_,_=>rfl
   | 5,_,_=>rfl
   | 6,_,_=>rfl
   | 7,_,_=>rfl
   | 8,_,_=>rfl
   | 9,_,_=>rfl
   | 10,_,_=>rfl
   | 11,_,_=>rfl
   | 12,_,_=>rfl
   | 13,_,_=>rfl
   | 14,_,_=>rfl
   | 15,_,_=>rfl
   |k+16,h1,_=>omega
 ·obtain ⟨m,rfl⟩:∃m,i=16+m:=⟨i-16,by omega⟩
  rw [getElem?_append_right (by rw [bD];omega),bD,show 16+m-16=m by omega]
  rcases lt_or_ge m 101 with h2 | h2
  ·rw [getElem?_append_left (by rw [cE];exact h2),mZ _ m h2]
   have:os[16+m]?=some os[16+m]:=getElem?_eq_getElem (by omega)
   simp only [this,if_pos h2,getD_some]
  ·obtain ⟨k,rfl⟩:∃k,m=101+k:=⟨m-101,by omega⟩
   rw [getElem?_append_right (by rw [cE];omega),cE,show 101+k-101=k by omega,getElem?_set]
   split
   ·rename_i hjk;subst hjk
    split
    ·have:os[117+j]?=some os[117+j]:=getElem?_eq_getElem (by omega)
     rw [show 16+(101+j)=117+j by omega,this];rfl
    ·rw [show 16+(101+j)=117+j by omega]
     exact getElem?_eq_none (by omega)
   ·have:=hoff (16+(101+k)) (by omega) (.inr ⟨by omega,by omega⟩)
    rw [show 16+(101+k)=117+k by omega,gY] at this
    rw [show 16+(101+k)=117+k by omega]
    exact this
theorem FlS.nextQ {n:Nat}(h:FlS n rg lk es x){T2:VT}(hr:fm (co n) T2)(hlen:T2.objs.length=(fy o rg lk es ck now came went x y).objs.length)(htl:T2.tails= [])(hoff:∀i,¬co n i→T2.objs[i]?=(fy o rg lk es ck now came went x y).objs[i]?):
  ∃rg1 x1,T2=fy o rg1 lk es ck now came went x1 y∧FlS n rg1 lk es x1:=by
 have hn:=h.hn
 rw [fw] at hlen
 have hT:=FB y.length hlen htl λi h1 h2=>hoff i (by unfold co;omega)
 rw [List.set_eq_of_length_le (le_refl _)] at hT
 refine ⟨_,_,hT,hn,?_,λi hi=> ?_,h.map,h.ents⟩
 ·rw [hT] at hr
  exact nP hr λq hq=>tZ hn hq
 ·split
  ·rename_i h2
   have:=hoff (16+i) (by unfold co;omega)
   rw [gk h2,h.none i hi] at this
   rw [this];rfl
  ·rfl
theorem FlS.next {n:Nat}(h:FlS n rg lk es x){T2:VT}(hr:fm (co n) T2)(hk:Kp (co n) (fy o rg lk es ck now came went x y) T2):
 ∃rg1 x1,T2=fy o rg1 lk es ck now came went x1 y∧FlS n rg1 lk es x1:=h.nextQ hr hk.len hk.tails hk.off
theorem Kf {n j:Nat}(hn:n≤101)(hx:∀i,n≤i→x i=.gone){T2:VT}(hk:Kp (λq=>co n q∨q=117+j) (fy o rg lk es ck now came went x y) T2):
  ∃rg1 x1 l,T2=fy o rg1 lk es ck now came went x1 (y.set j l)∧∀i,n≤i→x1 i=.gone:=by
 have hlen:=hk.len
 rw [fw] at hlen
 have hT:=FB j hlen hk.tails λi h1 h2=>hk.off i (by unfold co;omega)
 refine ⟨_,_,_,hT,λi hi=> ?_⟩
 split
 ·rename_i h2
  have:=hk.off (16+i) (by unfold co;omega)
  rw [gk h2,hx i hi] at this
  rw [this];rfl
 ·rfl
theorem CW:∃inf:TypeInfo,prog.info? 31=some inf∧inf.size=5:=
 ⟨(prog.info? 31).getD default,by kernel_rfl,by kernel_rfl⟩
theorem CX:∃inf:TypeInfo,prog.info? 49=some inf∧inf.size=7:=
 ⟨(prog.info? 49).getD default,by kernel_rfl,by kernel_rfl⟩
theorem EH {T:VT}{a:Operand}{l:List (Nat × TV)}{id:Nat}{e:En}{u v:TV}(ha:au ae l a=.ptr id 0)(ho:T.objs[id]?=some (dj e u v)):cT prog ae T false (.load 31 a) l (.agg (bo e.1)):=by
 obtain ⟨inf,i1,i2⟩:=CW
 refine .mk ?_
 have hc:bJ T (.ptr id 0) 5=some (bo e.1):=by
  simp only [bJ,ho,dj]
  rfl
 simp [iK,aR,cM,aH,cL,eJ,Tryz.underlying31,i1,i2,fP,ha,hc]
theorem EI {T:VT}{a:Operand}{l:List (Nat × TV)}{id:Nat}{e:En}{u v:TV}(ha:au ae l a=.ptr id 0)(ho:T.objs[id]?=some (dj e u v)):aN prog ae 0 T (.load 49 a) l (.agg (aP e)) T:=by
 obtain ⟨inf,i1,i2⟩:=CX
 refine .mk ?_
 have hc:bJ T (.ptr id 0) 7=some (aP e):=by
  simp only [bJ,ho,dj]
  rfl
 have h1:aR prog (.load 49 a) (au ae l)=none:=by simp [aR,cM]
 have h2:aH prog T (.load 49 a) (au ae l)=some (.agg (aP e)):=by simp [aH,cL,eJ,Tryz.underlying49,i1,i2,fP,ha,hc]
 simp only [eM,h1,h2]
theorem EJ {T:VT}{a:Operand}{l:List (Nat × TV)}{id off:Nat}{cs:List TV}{u:TV}(ha:au ae l a=.ptr id off)(ho:T.objs[id]?=some (.cells cs))(hy:cs[off]?=some u):aN prog ae 0 T (.load 96 a) l u T:=by
 obtain ⟨inf,i1,_⟩:=xN
 exact qQ (inf:=inf) Tryz.underlying96 rfl i1 ha ho hy
def nQ (f:Fl)(lk:Value→Option TV):Value→Option TV:=λkk=>bif aj (dw f) kk then none else lk kk
theorem FlS.del {n:Nat}(h:FlS n rg lk es x)(f:Fl):FlS n rg (nQ f lk) (dm (dw f) es) x where
 hn:=h.hn
 ring:=h.ring
 none:=h.none
 map:=λk v hv=>by
  unfold nQ at hv
  cases hb:aj (dw f) k with
  |true=>rw [hb] at hv;cases hv
  |false=>rw [hb] at hv;exact h.map k v hv
 ents:=λe he=>h.ents e ((nn es).subset he)
theorem EK {n p:Nat}(h:FlS n rg lk es x)(hp:co n p):∃rg1 x1 f,FlS n rg1 (nQ f lk) (dm (dw f) es) x1∧Kp (co n) (fy o rg lk es ck now came went x y) (fy o rg1 lk es ck now came went x1 y)∧
  VCx prog ae 0 CQ [.ptr 6 0,.ptr p 0] (fy o rg lk es ck now came went x y) λr T'=>r=.tup []∧T'=Fx (fy o rg lk es ck now came went x y) rg1 (.map kF (nQ f lk) (dm (dw f) es) ck) x1:=by
 obtain ⟨T2,r2,k2,hv⟩:=zt (h.at o lk es ck now came went y) hp
 obtain ⟨rg1,x1,hT,h1⟩:=h.next r2 k2
 rw [hT] at r2 k2
 obtain ⟨e,a,c,q1,_⟩:=r2 p hp
 refine ⟨rg1,x1,e.1,h1.del e.1,k2,?_⟩
 rw [IL]
 have hC:aT prog ae (aE [(zq,Fz p (λT=>T=fy o rg lk es ck now came went x y) rg1 x1)]):=aJ λq hq=>by
  obtain rfl:=mem_singleton.1 hq
  rintro ro ys T K ⟨⟨rfl,rfl,rfl⟩,hk⟩
  refine hv.mono ?_
  rintro r T' ⟨rfl,rfl⟩
  rw [xQ] at hk
  rw [hT];exact hk
 exact an ah ag hC ak (Ke o rg lk es ck now came went x y rg1 x1 p e.1 _ _) ⟨⟨rfl,rfl,rfl⟩,EH rfl q1,rfl,rfl⟩
def fI (o:Nat→VO):Prop:=∀i,i<16→∀f g:Nat→Option Nat,(∀j,j<16→f j=some j)→(o i).ren f g=o i
theorem CY (f g:Nat→Option Nat){n:Nat}(hf:∀i,i<n→f (16+i)=some (16+i)):∀es:Es,(∀e∈es,∃i,i<n∧e.2.1=.ptr (16+i) 0)→es.map (λe=>(e.1,e.2.1.ren f g,e.2.2))=es
 |[],_=>rfl
 | (a,b,c)::es,h=>by
  obtain ⟨i,hi,e⟩:=h _ mem_cons_self
  simp only at e
  subst e
  simp only [map_cons,CY f g hf es λe he=>h e (mem_cons_of_mem _ he),TV.ren,hf i hi]
theorem GS {n:Nat}(f g:Nat→Option Nat)(hf:∀i,i<n→f (16+i)=some (16+i))(hm:∀k v,lk k=some v→∃i,i<n∧v=.ptr (16+i) 0)(he:∀e∈es,∃i,i<n∧e.2.1=.ptr (16+i) 0)(ck:Nat):VO.ren f g (.map kF lk es ck)=.map kF lk es ck:=by
 have h1:(λk=>(lk k).map (TV.ren f g))=lk:=by
  funext k
  cases hk:lk k with
  |none=>rfl
  |some v=>
   obtain ⟨i,hi,rfl⟩:=hm k v hk
   simp only [map_some,TV.ren,hf i hi]
 simp only [VO.ren,h1,CY f g hf es he]
theorem CZ {n:Nat}(f g:Nat→Option Nat)(hf:∀p,co n p→f p=some p){e:En}{a c:Nat}(ha:co n a)(hc:co n c):VO.ren f g (cW e a c)=cW e a c:=by
 simp only [cW,dj,aP,iU,bo,bV,VO.ren,ay,cons_append,nil_append,TV.ren,hf a ha,hf c hc]
theorem pA {n:Nat}(h:FlS n rg lk es x)(ho:fI o)(f g:Nat→Option Nat)(hf:∀j,j<16+n→f j=some j):(cR o rg lk es ck now came went++ap x).map (VO.ren f g)=cR o rg lk es ck now came went++ap x:=by
 have hV:∀p,co n p→f p=some p:=λp hp=>hf p (by unfold co at hp;omega)
 have h16:∀j,j<16→f j=some j:=λj hj=>hf j (by omega)
 have er:VO.ren f g rg=rg:=by
  obtain ⟨e,a,c,h1,h2,h3⟩:=h.ring 4 (.inl rfl)
  unfold mr at h1
  rw [gG (by decide)] at h1
  have:rg=cW e a c:=by simpa [cR] using h1
  rw [this];exact CZ f g hV h2 h3
 have em:=GS f g (n:=n) (λi hi=>hf _ (by omega)) h.map h.ents ck
 have et:VO.ren f g (l7 now came went)=l7 now came went:=by simp only [l7,VO.ren,ay,TV.ren,h16 5 (by decide),h16 4 (by decide)]
 have ex:(ap x).map (VO.ren f g)=ap x:=by
  unfold ap
  rw [map_map]
  refine List.map_congr_left λi hi=> ?_
  have hi:=List.mem_range.1 hi
  simp only [comp]
  rcases lt_or_ge i n with h1 | h1
  ·obtain ⟨e,a,c,q1,q2,q3⟩:=h.ring (16+i) (.inr ⟨by omega,by omega⟩)
   unfold mr at q1
   rw [gk hi] at q1
   injection q1 with q1
   rw [q1];exact CZ f g hV q2 q3
  ·rw [h.none i h1];rfl
 rw [map_append,ex]
 have o':=λi (hi:i<16)=>ho i hi f g h16
 simp only [cR,map_cons,map_nil,o' 0 (by decide),o' 1 (by decide),o' 2 (by decide),o' 3 (by decide),o' 7 (by decide),o' 8 (by decide),o' 9 (by decide),o' 10 (by decide),o' 11 (by decide),o' 12 (by decide),o' 13 (by decide),o' 14 (by decide),o' 15 (by decide),er,em,et]
end
end
set_option maxRecDepth 100000
section
open Go.RowKit Go.Maps Go.Sort
theorem iQ {G:aC}{T:VT}{t:TypeId}{m k:Operand}{ok:Bool}{l:List (Nat × TV)}{y:TV}(h:cQ prog T t (au G l m) (au G l k) ok=some y):cT prog G T false (.lookup t m k ok) l y:=by
 refine .mk ?_
 have h1:aR prog (.lookup t m k ok) (au G l)=none:=by simp [aR,cM]
 have h2:aH prog T (.lookup t m k ok) (au G l)=some y:=by simp only [aH,h]
 simp only [iK,h1,h2,cond_false]
def sW (l:List aO):aO:=l.headD (0,0,0)
def sX (l:List aO):Bool:= !l.isEmpty
section
variable {lk lk2:Value→Option TV}{es es2:List (Value × TV × Nat)}{ck ck2:Nat}{S:List aO}{st:List Nat}{R:cN}
theorem IN (h:SitesOk lk es ck S st)(h2:RepsOk lk2 es2 R)(n:Int):∀ro ys T K,rz (sT lk lk2 es es2 ck ck2).objs [.ptr 0 0,.val (.int .i64 n)] (.vec 3 ((dd S R n).map bf) .none) ro ys T K→VCx prog ae ro jJ ys T K:=
 ze h h2 rfl (λf g=>by simp only [TV.ren,fj,Tok.ren]) (Ih h h2 n)
theorem IP (h:SitesOk lk es ck S st)(h2:RepsOk lk2 es2 R)(n:Int):
  VCx prog ae 0 u7 [.ptr 0 0,.val (.int .i64 n)] (sT lk lk2 es es2 ck ck2) λx T'=>x=.tup [ix (sW (dd S R n)),.val (.bool (sX (dd S R n)))]∧T'=sT lk lk2 es es2 ck ck2:=by
 have hab:=IN (ck2:=ck2) h h2 n
 have e1:=h.ren (ai 3) (ai 0)
 have e2:=h2.ren ck2 (ai 3) (ai 0)
 unfold kI at e1 e2
 cases hl:dd S R n with
 |nil=>
  rw [hl] at hab
  refine VCx.keepQ 3 0 (le_refl _) (le_refl _) (an ah ag (aJ λp hp=>by obtain rfl:=mem_singleton.1 hp;exact hab) ak (Ic lk lk2 es es2 ck ck2 n _) ?_)
  refine ⟨⟨rfl,rfl,rfl⟩,rfl,?_⟩
  simp only [VT.keep,take_succ_cons,take_zero,map_cons,map_nil,e1,e2,sT,kI]
  rfl
 |cons s l=>
  obtain ⟨i,a,c⟩:=s
  rw [hl] at hab
  refine VCx.keepQ 3 0 (le_refl _) (le_refl _) (an ah ag (aJ λp hp=>by obtain rfl:=mem_singleton.1 hp;exact hab) ak (Id lk lk2 es es2 ck ck2 i a c (l.map bf) n _) ?_)
  refine ⟨⟨rfl,rfl,rfl⟩,rfl,?_⟩
  simp only [VT.keep,take_succ_cons,take_zero,map_cons,map_nil,e1,e2,sT,kI]
  rfl
def lq (R:cN)(i:Int):Int × Int:=(R i).getD (0,0)
end
end
set_option maxRecDepth 100000
section
open Go.RowKit Go.Maps Go.Sort
section
variable {o:Nat→VO}{rg:VO}{lk:Value→Option TV}{es:Es}{ck:Nat}{now came went:Int}{x:Nat→VO}{y:List VO}
def t6 (y:List VO):Prop:=∀z∈y,∀f g:Nat→Option Nat,z.ren f g=z
theorem jh {n j:Nat}(h:j<n):ai n j=some j:=by simp [ai,h]
theorem t7 {n:Nat}(h:FlS n rg lk es x)(ho:fI o)(hy:t6 y)(l:List VO)(k:Nat)(hk:k=117+y.length):VT.keep (fy o rg lk es ck now came went x (y++l)) k 0=fy o rg lk es ck now came went x y:=by
 subst hk
 have hn:=h.hn
 have e1:(cR o rg lk es ck now came went++(ap x++(y++l))).take (117+y.length)=(cR o rg lk es ck now came went++ap x)++y:=by
  rw [show cR o rg lk es ck now came went++(ap x++(y++l))=((cR o rg lk es ck now came went++ap x)++y)++l by simp only [append_assoc]]
  exact take_left' (by simp only [length_append,bD,cE])
 have e2:=pA (ck:=ck) (now:=now) (came:=came) (went:=went) h ho (ai (117+y.length)) (ai 0) λj hj=>jh (by omega)
 have e3:y.map (VO.ren (ai (117+y.length)) (ai 0))=y:=(List.map_congr_left λz hz=>hy z hz _ _).trans (List.map_id y)
 simp only [VT.keep,fy]
 rw [e1,map_append,e2,e3,append_assoc]
 rfl
theorem FlS.links {n p:Nat}(h:FlS n rg lk es x)(hp:co n p)(o:Nat→VO)(lk':Value→Option TV)(es':Es)(ck:Nat)(now came went:Int)(y:List VO):∃e a c,(fy o rg lk' es' ck now came went x y).objs[p]?=some (cW e a c)∧co n a∧co n c:=h.at o lk' es' ck now came went y p hp
theorem C0 {n:Nat}(h:FlS n rg lk es x)(ho:fI o)(y0 y1 y2 y3:VO)(hy:t6 [y0,y1,y2,y3]):∃en b rg1 lk1 es1 went1 x1,FlS n rg1 lk1 es1 x1∧(∀k v,lk1 k=some v→lk k=some v)∧Kp (co n) (fy o rg lk es ck now came went x [y0,y1,y2,y3]) (fy o rg1 lk es ck now came went x1 [y0,y1,y2,y3])∧
  VCx prog ae 0 Fv [.ptr 6 0] (fy o rg lk es ck now came went x [y0,y1,y2,y3]) λr T'=>r=.tup [.agg (aP en),.val (.bool b)]∧T'=Fy (fy o rg lk es ck now came went x [y0,y1,y2,y3]) rg1 (.map kF lk1 es1 ck) (l7 now came went1) x1:=by
 by_cases hl:es.length<20
 ·refine ⟨((0,0,0,0,0),0,0),false,rg,lk,es,went,x,h,λ_ _ hv=>hv,Kp.refl _ _,?_⟩
  rw [CV]
  have hC:aT prog ae (aE [(CQ,II 4 (λ_=>False) rg .gone x)]):=aJ λq hq=>by
   obtain rfl:=mem_singleton.1 hq
   rintro ro ys T K ⟨⟨_,_,hf⟩,_⟩
   exact hf.elim
  refine VCx.keepQ 121 0 (by rw [fw];exact le_refl _) (le_refl _) (an ah ag hC ak (FA o rg lk es ck now came went x y0 y1 y2 y3 rg .gone x 4 ((0,0,0,0,0),0,0) _ _) ?_)
  exact aL (decide_eq_true (by omega)) ⟨rfl,t7 h ho hy _ _ rfl⟩
 ·obtain ⟨e,a0,p,h1,hp0,hp⟩:=h.links (.inl rfl) o lk es ck now came went [y0,y1,y2,y3,.cells [.val (.int .i64 0),.val (.int .u32 0),.val (.int .u32 0),.val (.int .i64 0),.val (.int .i64 0),.val (.int .i64 0),.val (.int .i64 0)]]
  obtain ⟨rg1,x1,f,g1,g2,hv⟩:=EK (o:=o) (ck:=ck) (now:=now) (came:=came) (went:=went) (y:= [y0,y1,y2,y3,.cells [.val (.int .i64 0),.val (.int .u32 0),.val (.int .u32 0),.val (.int .i64 0),.val (.int .i64 0),.val (.int .i64 0),.val (.int .i64 0)]]) h hp
  obtain ⟨e2,a2,c2,q1,_⟩:=g1.links hp o (nQ f lk) (dm (dw f) es) ck now came (wrap i64 (went+1)) [y0,y1,y2,y3,.cells [.val (.int .i64 0),.val (.int .u32 0),.val (.int .u32 0),.val (.int .i64 0),.val (.int .i64 0),.val (.int .i64 0),.val (.int .i64 0)]]
  have hk2:Kp (co n) (fy o rg lk es ck now came went x [y0,y1,y2,y3]) (fy o rg1 lk es ck now came went x1 [y0,y1,y2,y3]):={
   len:=by rw [fw,fw]
   tails:=rfl
   off:=λi hi=>by
    have:=g2.off i hi
    rcases lt_or_ge i 117 with h3 | h3
    ·rcases lt_or_ge i 16 with h4 | h4
     ·rw [gG h4,gG h4] at this ⊢;exact this
     ·obtain ⟨j,rfl⟩:∃j,i=16+j:=⟨i-16,by omega⟩
      rw [gk (by omega),gk (by omega)] at this ⊢;exact this
    ·obtain ⟨j,rfl⟩:∃j,i=117+j:=⟨i-117,by omega⟩
     rw [gY,gY]
   kept:=λq e0 u0 v0 hq hl0=>by
    have hx1:=tZ (x:=x1) (rg:=rg1) (o:=o) (lk:=lk) (es:=es) (ck:=ck) (now:=now) (came:=came) (went:=went) (y:= [y0,y1,y2,y3,.cells [.val (.int .i64 0),.val (.int .u32 0),.val (.int .u32 0),.val (.int .i64 0),.val (.int .i64 0),.val (.int .i64 0),.val (.int .i64 0)]]) (o':=o) (lk':=lk) (es':=es) (ck':=ck) (now':=now) (came':=came) (went':=went) (y':= [y0,y1,y2,y3]) h.hn hq
    have hx0:=tZ (x:=x) (rg:=rg) (o:=o) (lk:=lk) (es:=es) (ck:=ck) (now:=now) (came:=came) (went:=went) (y:= [y0,y1,y2,y3]) (o':=o) (lk':=lk) (es':=es) (ck':=ck) (now':=now) (came':=came) (went':=went) (y':= [y0,y1,y2,y3,.cells [.val (.int .i64 0),.val (.int .u32 0),.val (.int .u32 0),.val (.int .i64 0),.val (.int .i64 0),.val (.int .i64 0),.val (.int .i64 0)]]) h.hn hq
    rw [hx1]
    exact g2.kept q e0 u0 v0 hq (hx0.trans hl0)}
  refine ⟨e2,true,rg1,nQ f lk,dm (dw f) es,wrap i64 (went+1),x1,g1,λk v hv=> ?_,hk2,?_⟩
  ·unfold nQ at hv
   cases hb:aj (dw f) k with
   |true=>rw [hb] at hv;cases hv
   |false=>rw [hb] at hv;exact hv
  ·rw [CV]
   have hC:aT prog ae (aE [(CQ,II p (λT=>T=fy o rg lk es ck now came went x [y0,y1,y2,y3,.cells [.val (.int .i64 0),.val (.int .u32 0),.val (.int .u32 0),.val (.int .i64 0),.val (.int .i64 0),.val (.int .i64 0),.val (.int .i64 0)]]) rg1 (.map kF (nQ f lk) (dm (dw f) es) ck) x1)]):=aJ λq hq=>by
    obtain rfl:=mem_singleton.1 hq
    rintro ro ys T K ⟨⟨rfl,rfl,rfl⟩,hk⟩
    refine hv.mono ?_
    rintro r T' ⟨rfl,rfl⟩
    exact hk
   refine VCx.keepQ 121 0 (by rw [fw];exact le_refl _) (le_refl _) (an ah ag hC ak (FA o rg lk es ck now came went x y0 y1 y2 y3 rg1 (.map kF (nQ f lk) (dm (dw f) es) ck) x1 p e2 _ _) ?_)
   rw [gG (by decide)] at h1
   have hrg:rg=cW e a0 p:=by simpa [cR] using h1
   refine az (decide_eq_false (by omega)) ⟨?_,⟨rfl,rfl,rfl⟩,EI rfl q1,rfl,?_⟩
   ·subst hrg
    exact EJ (cs:=aP e++ [.ptr a0 0,.ptr p 0]) (id:=4) (off:=8) rfl rfl rfl
   ·exact t7 (y:= [y0,y1,y2,y3]) g1 ho hy _ _ rfl
end
end
set_option maxRecDepth 100000
section
open Go.RowKit Go.Maps Go.Sort
section
variable {o:Nat→VO}{rg:VO}{lk:Value→Option TV}{es:Es}{ck:Nat}{now came went:Int}{x:Nat→VO}{z:VO}{n:Nat}{f:Fl}{b m:Int}
theorem m7 {T:VT}{id:Nat}(hid:T.objs[id]?=some (.map kF lk es ck)):cQ prog T 97 (.map id) (.agg (bo f)) false=some (cf false (lk (dw f)) (.pointer none)):=by
 have h:∀u:Option VO,u=some (.map kF lk es ck)→(match prog.underlying 97,bM (.agg (bo f)) with
   |some (.map kt et),some kv=>match bY prog kt,prog.info? et with
    |some sh,some i=>match i.zero with
     |some zz=>bif sh.fits kv then (match u with
       |some (.map sh' look _ _)=>bif fG sh sh' then some (cf false (look kv) zz) else none
       |_=>none) else none
     |none=>none
    |_,_=>none
   |_,_=>none)=some (cf false (lk (dw f)) (.pointer none)):=by
  rintro _ rfl
  kernel_rfl
 exact h _ hid
def zu:VO:=.cells [.val (.int .i64 0),.val (.int .u32 0),.val (.int .u32 0),.val (.int .i64 0),.val (.int .i64 0),.val (.int .i64 0),.val (.int .i64 0)]
def xR (e:En):VO:=.cells (aP e)
def iR (z:VO)(f:Fl):List VO:= [z,.cells (bo f),zu,zu]
def FC (r:TV):Prop:=∃(en:En) (q:Bool),r=.tup [.agg (aP en),.val (.bool q)]
theorem Ba {i:Nat}(h:FlS n rg lk es x)(hi:i<n)(o:Nat→VO)(lk':Value→Option TV)(es':Es)(ck:Nat)(now came went:Int)(y:List VO):∃e a c,(fy o rg lk' es' ck now came went x y).objs[16+i]?=some (cW e a c)∧x i=cW e a c∧co n a∧co n c:=by
 have hn:=h.hn
 obtain ⟨e,a,c,h1,h2⟩:=h.links (p:=16+i) (.inr ⟨by omega,by omega⟩) o lk' es' ck now came went y
 refine ⟨e,a,c,h1,?_,h2⟩
 rw [gk (by omega)] at h1
 injection h1
theorem Lo {T:VT}{x y:Operand}{l:List (Nat × TV)}{a:Nat}{b:Int}{e:En}{u v:TV}(ha:au ae l x=.ptr a 5)(hx:au ae l y=.val (.int .i64 b))(h:T.objs[a]?=some (dj e u v)):aN prog ae 0 T (.store 3 x y) l (.val undef) (cD T a (dj (e.1,b,e.2.2) u v)):=by
 obtain ⟨inf,i1,i2⟩:=CU
 have hs:=ll (P:=prog) (G:=ae) (ro:=0) (T:=T) (t:=3) (a:=x) (x:=y) (l:=l) (id:=a) (off:=5) (cs:=aP e++ [u,v]) (new:= [.val (.int .i64 b)]) i1 ha (by rw [hx];rfl) h (by rw [i2];rfl) (by show 6≤9;decide) rfl (zero_le _)
 rw [pv _ _ _ (by show 5<9;decide)] at hs
 exact hs
theorem GT (h:FlS n rg lk es x)(ho:fI o)(hz:t6 [z]){i:Nat}(hi:i<n)(hf:lk (dw f)=some (.ptr (16+i) 0)):∃rg3 x3 now3,FlS n rg3 lk es x3∧(∃e a c,x3 i=cW e a c∧e.2.1=b)∧
  VCx prog ae 0 ve [.ptr 6 0,.agg (bo f),.val (.int .i64 b),.val (.int .i64 m)] (fy o rg lk es ck now came went x [z]) λr T'=>FC r∧T'=fy o rg3 lk es ck now3 came went x3 [z]:=by
 have hn:=h.hn
 have hp:co n (16+i):=.inr ⟨by omega,by omega⟩
 let now':Int:=if m>now then m else now
 obtain ⟨T2,r2,k2,hv2⟩:=zt (h.at o lk es ck now' came went (iR z f)) hp
 obtain ⟨rg1,x1,hT2,h1⟩:=h.next r2 k2
 subst hT2
 obtain ⟨e,a,c,q1,q2,qa,qc⟩:=Ba h1 hi o lk es ck now' came went (iR z f)
 let e2:En:=(e.1,b,e.2.2)
 have hlt:=l8 q1
 let T3:=cD (fy o rg1 lk es ck now' came went x1 (iR z f)) (16+i) (cW e2 a c)
 have r3:fm (co n) T3:=lp r2 hlt qa qc
 have a3:∀q,T3.objs[q]?=if 16+i=q then some (cW e2 a c) else (fy o rg1 lk es ck now' came went x1 (iR z f)).objs[q]?:=λq=>jM hlt
 obtain ⟨rg2,x2,hT3,h2⟩:=h1.nextQ (o:=o) (ck:=ck) (now:=now') (came:=came) (went:=went) (y:=iR z f) (T2:=T3) r3 (by simp [T3,cD]) rfl λj hj=>by rw [a3,if_neg λ(k:16+i=j)=>hj (k▸hp)]
 have hrg:rg2=rg1:=by
  have:=a3 4
  rw [hT3,if_neg (by omega),gG (by decide),gG (by decide)] at this
  simpa [cR] using this
 subst hrg
 have hp3:(fy o rg2 lk es ck now' came went x2 (iR z f)).objs[16+i]?=some (dj e2 (.ptr a 0) (.ptr c 0)):=by rw [←hT3,a3,if_pos rfl];rfl
 obtain ⟨T4,r4,k4,hv4⟩:=xP (V:=co n) (T:=fy o rg2 lk es ck now' came went x2 (iR z f)) (p:=16+i) (now:=now') (came:=came) (went:=went) (h2.at o lk es ck now' came went (iR z f)) rfl (.inl rfl) (by unfold co;omega) (by omega) (by omega) hp3 rfl rfl
 have hV:∀q,(co n q∨q=16+i) ↔ co n q:=λq=>⟨λk=>k.elim id λk=>k▸hp,.inl⟩
 have r4':fm (co n) T4:=λq hq=>by
  obtain ⟨e,a,c,g1,g2,g3⟩:=r4 q (.inl hq)
  exact ⟨e,a,c,g1,(hV a).1 g2,(hV c).1 g3⟩
 obtain ⟨rg3,x3,hT4,h3⟩:=h2.nextQ (T2:=T4) r4' k4.len k4.tails λj hj=>k4.off j λk=>hj ((hV j).1 k)
 subst hT4
 obtain ⟨e5,u5,v5,g5,_,g6⟩:=k4.kept (16+i) e2 _ _ (.inr rfl) hp3
 obtain ⟨e6,a6,c6,q6,q7,_⟩:=Ba h3 hi o lk es ck now' came went (iR z f)
 have hb:e6.2.1=b:=by
  rw [q6] at g5;injection g5 with g5
  obtain ⟨rfl,_⟩:=tY g5
  exact g6
 refine ⟨rg3,x3,now',h3,⟨e6,a6,c6,q7,hb⟩,?_⟩
 have hC:aT prog ae (aE [(zq,Fz (16+i) (λT=>T=fy o rg lk es ck now' came went x (iR z f)) rg2 x1),(zr,KV (16+i) (λT=>T=fy o rg2 lk es ck now' came went x2 (iR z f)) rg3 x3)]):=aJ λq hq=>by
  simp only [mem_cons,not_mem_nil,or_false] at hq
  rcases hq with rfl | rfl
  ·rintro ro ys T K ⟨⟨rfl,rfl,rfl⟩,hk⟩
   refine hv2.mono ?_
   rintro r T' ⟨rfl,rfl⟩
   rw [xQ] at hk
   exact hk
  ·rintro ro ys T K ⟨⟨rfl,rfl,rfl⟩,hk⟩
   refine hv4.mono ?_
   rintro r T' ⟨rfl,rfl⟩
   rw [xQ] at hk
   exact hk
 refine VCx.keepQ 118 0 (by rw [fw];exact le_refl _) (le_refl _) (an ah ag hC ak (IJ o rg lk es ck now came went x z rg2 rg3 x1 x2 x3 (16+i) f b m _ _ _) ?_)
 refine ⟨iQ ((m7 (T:=fy o rg lk es ck now' came went x (iR z f)) (lk:=lk) (es:=es) (ck:=ck) rfl).trans (by rw [hf];rfl)),⟨rfl,rfl,rfl⟩,?_,⟨rfl,rfl,rfl⟩,⟨((0,0,0,0,0),0,0),false,rfl⟩,?_⟩
 ·have hs:=Lo (T:=fy o rg2 lk es ck now' came went x1 (iR z f)) (x:=.tmp 56) (y:=.tmp 53) (l:= [(56,.ptr (16+i) 5),(53,.val (.int .i64 b))]) (a:=16+i) (b:=b) rfl rfl q1
  have e9:cD (fy o rg2 lk es ck now' came went x1 (iR z f)) (16+i) (dj (e.1,b,e.2.2) (TV.ptr a 0) (TV.ptr c 0))=fy o rg2 lk es ck now' came went x2 (iR z f):=hT3
  rw [e9] at hs
  exact hs
 ·exact t7 (y:= [z]) h3 ho hz _ _ rfl
structure IQ (n e:Nat) (lk:Value→Option TV) (es:Es):Prop where
 map:∀k v,lk k=some v→∃p,((∃i,i<n∧p=16+i)∨p=e)∧v=.ptr p 0
 ents:∀a∈es,∃p,((∃i,i<n∧p=16+i)∨p=e)∧a.2.1=.ptr p 0
def pB (f:Fl)(p:Nat)(lk:Value→Option TV):Value→Option TV:=λkk=>bif aj (dw f) kk then some (.ptr p 0) else lk kk
theorem vg {k:Value}{v:TV}{ck:Nat}:∀{es:Es} {e},e∈bt k v ck es→e.2.1=v∨∃e' ∈es,e.2.1=e'.2.1
  |[],e,h=>by
    rw [mem_singleton.1 h];exact .inl rfl
  |a::es,e,h=>by
    simp only [bt] at h
    cases hb:aj k a.1 with
    |true=>
      rw [hb,cond_true] at h
      rcases mem_cons.1 h with rfl | h
      · exact .inl rfl
      · exact .inr ⟨e,mem_cons_of_mem _ h,rfl⟩
    |false=>
      rw [hb,cond_false] at h
      rcases mem_cons.1 h with rfl | h
      · exact .inr ⟨e,mem_cons_self,rfl⟩
      · rcases vg h with h1 | ⟨e',h1,h2⟩
        · exact .inl h1
        · exact .inr ⟨e',mem_cons_of_mem _ h1,h2⟩
theorem FlS.putN (h:FlS n rg lk es x)(f:Fl)(e ck:Nat):IQ n e (pB f e lk) (bt (dw f) (.ptr e 0) ck es) where
 map:=λk v hv=>by
  unfold pB at hv
  cases hb:aj (dw f) k with
  |true=>rw [hb] at hv;injection hv with hv;exact ⟨e,.inr rfl,hv.symm⟩
  |false=>
   rw [hb] at hv
   obtain ⟨i,hi,rfl⟩:=h.map k v hv
   exact ⟨16+i,.inl ⟨i,hi,rfl⟩,rfl⟩
 ents:=λa ha=>by
  rcases vg ha with h1 | ⟨e',h1,h2⟩
  ·exact ⟨e,.inr rfl,h1⟩
  ·obtain ⟨i,hi,h3⟩:=h.ents e' h1
   exact ⟨16+i,.inl ⟨i,hi,rfl⟩,h2.trans h3⟩
theorem EL (h:FlS n rg lk es x)(ho:fI o)(hz:t6 [z])(hf:lk (dw f)=none):∃rg3 lk3 es3 ck3 now3 came3 went3 x3 l b1 b2 b3,IQ n 121 lk3 es3∧(∀i,n≤i→x3 i=.gone)∧lk3 (dw f)=some (.ptr 121 0)∧
  fm (λq=>co n q∨q=121) (fy o rg3 lk3 es3 ck3 now3 came3 went3 x3 [z,b1,b2,b3,l])∧(∃e u v,l=dj e u v∧e.2.1=b)∧
  VCx prog ae 0 ve [.ptr 6 0,.agg (bo f),.val (.int .i64 b),.val (.int .i64 m)] (fy o rg lk es ck now came went x [z]) λr T'=>FC r∧T'=fy o rg3 lk3 es3 ck3 now3 came3 went3 x3 [z,b1,b2,b3,l]:=by
 have hn:=h.hn
 let now':Int:=if m>now then m else now
 have hY:t6 (iR z f):=λw hw g1 g2=>by
  simp only [iR,mem_cons,not_mem_nil,or_false] at hw
  rcases hw with rfl | rfl | rfl | rfl
  ·exact hz _ mem_cons_self _ _
  ·rfl
  ·rfl
  ·rfl
 obtain ⟨en,q,rg1,lk1,es1,went1,x1,h1,hsub,_,hv1⟩:=C0 (o:=o) (ck:=ck) (now:=now') (came:=came) (went:=went) h ho z (.cells (bo f)) zu zu hY
 have hf1:lk1 (dw f)=none:=by
  cases hc:lk1 (dw f) with
  |none=>rfl
  |some v=>rw [hsub _ _ hc] at hf;cases hf
 let came':Int:=wrap i64 (came+1)
 let Y2:List VO:= [z,.cells (bo f),zu,xR en,dj (f,b,0) (.val (.pointer none)) (.val (.pointer none))]
 let T2:VT:=fy o rg1 (pB f 121 lk1) (bt (dw f) (.ptr 121 0) ck es1) (ck+1) now' came' went1 x1 Y2
 obtain ⟨T3,r3,k3,hv3⟩:=xP (V:=co n) (T:=T2) (p:=121) (now:=now') (came:=came') (went:=went1) (h1.at o _ _ _ _ _ _ Y2) rfl (.inl rfl) (by unfold co;omega) (by omega) (by omega) (show T2.objs[117+4]?=some (dj (f,b,0) (.val (.pointer none)) (.val (.pointer none))) by rw [gY];rfl) rfl rfl
 obtain ⟨rg3,x3,l,hT3,hx3⟩:=Kf (j:=4) hn h1.none (o:=o) (rg:=rg1) (lk:=pB f 121 lk1) (es:=bt (dw f) (.ptr 121 0) ck es1) (ck:=ck+1) (now:=now') (came:=came') (went:=went1) (x:=x1) (y:=Y2) (T2:=T3) k3
 obtain ⟨e5,u5,v5,g5,_,g6⟩:=k3.kept 121 (f,b,0) _ _ (.inr rfl) (show T2.objs[117+4]?=some (dj (f,b,0) (.val (.pointer none)) (.val (.pointer none))) by rw [gY];rfl)
 have hl:l=dj e5 u5 v5:=by
  have:T3.objs[117+4]?=some l:=by rw [hT3,gY];rfl
  rw [show (121:Nat)=117+4 from rfl,this] at g5
  injection g5
 subst hT3
 have hre:fm (λq=>co n q∨q=121) (fy o rg3 (pB f 121 lk1) (bt (dw f) (.ptr 121 0) ck es1) (ck+1) now' came' went1 x3 [z,.cells (bo f),xR en,xR en,l]):=nP r3 λq hq=>by
  rcases hq with hq | rfl
  ·exact tZ hn hq
  ·rw [show (121:Nat)=117+4 from rfl,gY,gY];rfl
 refine ⟨rg3,_,_,_,_,_,_,x3,l,.cells (bo f),xR en,xR en,h1.putN f 121 ck,hx3,?_,hre,⟨e5,u5,v5,hl,g6⟩,?_⟩
 ·have:aj (dw f) (dw f)=true:=by simp [dw,aj,du,cH]
  simp only [pB,this,cond_true]
 ·have hC:aT prog ae (aE [(Fv,KY (λT=>T=fy o rg lk es ck now' came went x (iR z f)) en q rg1 (.map kF lk1 es1 ck) (l7 now' came went1) x1),(zr,KW 121 (λT=>T=T2) rg3 x3 l)]):=aJ λr hr=>by
   simp only [mem_cons,not_mem_nil,or_false] at hr
   rcases hr with rfl | rfl
   ·rintro ro ys T K ⟨⟨rfl,rfl,rfl⟩,hk⟩
    refine hv1.mono ?_
    rintro r T' ⟨rfl,rfl⟩
    exact hk
   ·rintro ro ys T K ⟨⟨rfl,rfl,rfl⟩,hk⟩
    refine hv3.mono ?_
    rintro r T' ⟨rfl,rfl⟩
    rw [IM] at hk
    exact hk
  refine an ah ag hC ak (IK o rg lk es ck now came went x z rg1 rg3 l lk1 es1 ck now' came went1 x1 x3 f en q b m _ _ _) ?_
  have hck:(match lk1 (dw f) with | some _=>ck | none=>ck+1)=ck+1:=by rw [hf1]
  refine ⟨iQ ((m7 (T:=fy o rg lk es ck now' came went x (iR z f)) (lk:=lk) (es:=es) (ck:=ck) rfl).trans (by rw [hf];rfl)),⟨rfl,rfl,rfl⟩,⟨rfl,rfl,?_⟩,⟨en,q,rfl⟩,?_⟩
  ·show fy o rg1 (pB f 121 lk1) (bt (dw f) (.ptr 121 0) ck es1) (match lk1 (dw f) with | some _=>ck | none=>ck+1) now' came' went1 x1 Y2=T2
   rw [hck]
  ·show fy o rg3 (pB f 121 lk1) (bt (dw f) (.ptr 121 0) ck es1) (match lk1 (dw f) with | some _=>ck | none=>ck+1) now' came' went1 x3 [z,.cells (bo f),xR en,xR en,l]=_
   rw [hck]
end
end
abbrev lr:=32
abbrev xS:=34
abbrev jZ:=68
def pC (i a c p u:Int):List TV:= [.val (.int .i64 i),.val (.int .u32 a),.val (.int .i64 c),.val (.int .i64 p),.val (.int .i64 u)]
def mO (L:List (List TV)):VO:=.cells [.vec 5 L .none]
def mL (L:List (List TV))(l:List VO):VT:=⟨mO L::l,[]⟩
def zv:List Nat:= [1,4,10,11,12]
def vh (L:List (List TV))(i r j:Int):List TV:= [.val (.int .i64 i),.val (.int .i64 r),.vec 5 L .none,.val (.int .i64 L.length),.val (.int .i64 j)]
def KZ (L:List (List TV))(i r:Int)(hit:Bool)(c0:Code):Nat→Option (bH × Code):=di [(0,gX 24 zv [] (vh L i 0 0) (mL L []) λK=>bif hit then (∀cs,K .ret (ax 24 zv (vh L i r r)) (mL L [.cells cs]) []) else K .normal (ax 24 zv (vh L i 0 L.length)) (mL L []) [],c0)]
def FD (L:List (List TV))(i r:Int):aZ:=λro ys T K=>(ro=0∧ys= [.ptr 0 0,.val (.int .i64 i)]∧T.objs[0]?=some (mO L))∧K (.val (.int .i64 r)) T
def C1:List Nat:= [0,3,5]
def C2 (j:Int):List TV:= [.ptr 0 0,.ptr 1 0,.val (.int .i64 j)]
def K0 (L:List (List TV))(i a c k:Int)(c0:Code):Nat→Option (bH × Code):=di [(1,gX 88 C1 [] (C2 0) (mL L [.cells (da i a c)]) λK=>K .normal (ax 88 C1 (C2 k)) (mL L [.cells (da i a c)]) [],c0)]
def IR (T:VT)(n:Nat):VT:={T with tails:= [(n,5,false)]}
theorem Kg (L:List (List TV))(i r:Int)(hit:Bool)(Q:TV→VT→Prop):aK prog ae c9 bv 300 (KZ L i r hit (av prog jZ 0)) 0 jZ [.ptr 0 0,.val (.int .i64 i)] (mL L []) Q=
 ((av prog jZ (0:Nat)=av prog jZ (0:Nat))∧
 (((@Eq (Option Nat) .none .none)∧
 ((@Eq (Nat) 0 0)∧
 ((@Eq (List Nat) [] [])∧
 (True  ∧
 ((@Eq (VT) ⟨[(.cells [(.vec 5 (L) .none)])],[]⟩ ⟨[(.cells [(.vec 5 (L) .none)])],[]⟩)∧
 ((@Eq (Bool) true true)∧
 (@Eq (List TV) [(.val (.int .i64 (i))),(.val (.int .i64 0)),(.vec 5 (L) .none),(.val (.int .i64 ((↑(length L):Int)))),(.val (.int .i64 0))] [(.val (.int .i64 (i))),(.val (.int .i64 0)),(.vec 5 (L) .none),(.val (.int .i64 ((↑(length L):Int)))),(.val (.int .i64 0))])))))))∧
 (bif hit
 then (∀cs:List TV,Q (.val (.int .i64 (r))) ⟨[(.cells [(.vec 5 (L) .none)]),(.cells (cs))],[]⟩)
 else Q (.val (.int .i64 (-1))) ⟨[(.cells [(.vec 5 (L) .none)])],[]⟩))):=by kernel_rfl
theorem C3 (L:List (List TV))(i r i' a c p u:Int)(j:Nat)(Q:Exit→List TV→VT→List Nat→Nat→Prop):vx prog ae c9 (bw [(999998,.dead,none),(15,.elt (pC i' a c p u),none)]) 300 bq none 0 (dh prog jZ 0) (ax 24 zv (vh L i r j)) (mL L []) [] (dl zv Q)=
 (bif decide ((↑j:Int)<(↑(length L):Int))
 then (aI prog (λ_=>.none) (.indexAddr 78 (.tmp 10) (.tmp 12)) [(10,(.vec 5 (L) .none)),(12,(.val (.int .i64 ((↑j:Int)))))] (.elt [(.val (.int .i64 (i'))),(.val (.int .u32 (a))),(.val (.int .i64 (c))),(.val (.int .i64 (p))),(.val (.int .i64 (u)))])∧
 (bif bE eql (aj (Value.int i64 i') (Value.int i64 i))
 then Q .ret [(.val (.int .i64 (i))),(.val (.int .i64 ((↑j:Int)))),(.vec 5 (L) .none),(.val (.int .i64 ((↑(length L):Int)))),(.val (.int .i64 ((↑j:Int))))] ⟨[(.cells [(.vec 5 (L) .none)]),(.cells [(.val (.int .i64 (i'))),(.val (.int .u32 (a))),(.val (.int .i64 (c))),(.val (.int .i64 (p))),(.val (.int .i64 (u)))])],[]⟩ [] 24
 else Q .normal [(.val (.int .i64 (i))),(.val (.int .i64 (r))),(.vec 5 (L) .none),(.val (.int .i64 ((↑(length L):Int)))),(.val (.int .i64 (wrap i64 ((↑j:Int)+(1:Int)))))] ⟨[(.cells [(.vec 5 (L) .none)]),(.cells [(.val (.int .i64 (i'))),(.val (.int .u32 (a))),(.val (.int .i64 (c))),(.val (.int .i64 (p))),(.val (.int .i64 (u)))])],[]⟩ [] 24))
 else Q (.exit 0) [(.val (.int .i64 (i))),(.val (.int .i64 (r))),(.vec 5 (L) .none),(.val (.int .i64 ((↑(length L):Int)))),(.val (.int .i64 ((↑j:Int))))] ⟨[(.cells [(.vec 5 (L) .none)])],[]⟩ [] 24):=by kernel_rfl
theorem Kh (L:List (List TV))(i a c r:Int)(k:Nat)(Q:TV→VT→Prop):aK prog ae (aE [(jZ,FD L i r)]) (bw [(999998,.dead,none),(73,.vec 5 (L.take k) .none,none),(84,.vec 5 (L.drop k) .none,none),(74,.vec 5 (L.take k) (.tail 0 (L.take k).length),some λT=>IR T (L.take k).length),(78,.vec 5 (L.take k++ [pC i a c 0 0]) (.tail 0 ((L.take k).length+1)),some λT=>IR T ((L.take k).length+1)),(85,.vec 5 (L.take k++ [pC i a c 0 0]++L.drop k) (.tail 0 ((L.take k).length+1+(L.drop k).length)),some λT=>IR T ((L.take k).length+1+(L.drop k).length))]) 300 (K0 L i a c k (av prog lr 1)) 0 lr [.ptr 0 0,.agg (da i a c)] (mL L []) Q=
 (bif decide (i<(0:Int))
 then Q (.val (.int .i64 2)) ⟨[(.cells [(.vec 5 (L) .none)]),(.cells [(.val (.int .i64 (i))),(.val (.int .u32 (a))),(.val (.int .i64 (c)))])],[]⟩
 else (bif decide (i>(255:Int))
 then Q (.val (.int .i64 2)) ⟨[(.cells [(.vec 5 (L) .none)]),(.cells [(.val (.int .i64 (i))),(.val (.int .u32 (a))),(.val (.int .i64 (c)))])],[]⟩
 else (bif bE eql (aj (Value.int u32 a) (Value.int u32 (0:Int)))
 then Q (.val (.int .i64 2)) ⟨[(.cells [(.vec 5 (L) .none)]),(.cells [(.val (.int .i64 (i))),(.val (.int .u32 (a))),(.val (.int .i64 (c)))])],[]⟩
 else (bif decide (c<(0:Int))
 then Q (.val (.int .i64 2)) ⟨[(.cells [(.vec 5 (L) .none)]),(.cells [(.val (.int .i64 (i))),(.val (.int .u32 (a))),(.val (.int .i64 (c)))])],[]⟩
 else (bif decide (c>(1000000:Int))
 then Q (.val (.int .i64 2)) ⟨[(.cells [(.vec 5 (L) .none)]),(.cells [(.val (.int .i64 (i))),(.val (.int .u32 (a))),(.val (.int .i64 (c)))])],[]⟩
 else (((@Eq (Nat) 0 0)∧
 ((@Eq (List TV) [(.ptr 0 0),(.val (.int .i64 (i)))] [(.ptr 0 0),(.val (.int .i64 (i)))])∧
 (@Eq (Option VO) (.some (.cells [(.vec 5 (L) .none)])) (.some (.cells [(.vec 5 (L) .none)])))))∧
 (bif decide (r≥(0:Int))
 then Q (.val (.int .i64 13)) ⟨[(.cells [(.vec 5 (L) .none)]),(.cells [(.val (.int .i64 (i))),(.val (.int .u32 (a))),(.val (.int .i64 (c)))])],[]⟩
 else (bif decide ((↑(length L):Int)≥(8:Int))
 then Q (.val (.int .i64 6)) ⟨[(.cells [(.vec 5 (L) .none)]),(.cells [(.val (.int .i64 (i))),(.val (.int .u32 (a))),(.val (.int .i64 (c)))])],[]⟩
 else ((av prog lr (1:Nat)=av prog lr (1:Nat))∧
 (((@Eq (Option Nat) .none .none)∧
 ((@Eq (Nat) 0 0)∧
 ((@Eq (List Nat) [] [])∧
 (True  ∧
 ((@Eq (VT) ⟨[(.cells [(.vec 5 (L) .none)]),(.cells [(.val (.int .i64 (i))),(.val (.int .u32 (a))),(.val (.int .i64 (c)))])],[]⟩ ⟨[(.cells [(.vec 5 (L) .none)]),(.cells [(.val (.int .i64 (i))),(.val (.int .u32 (a))),(.val (.int .i64 (c)))])],[]⟩)∧
 ((@Eq (Bool) true true)∧
 (@Eq (List TV) [(.ptr 0 0),(.ptr 1 0),(.val (.int .i64 0))] [(.ptr 0 0),(.ptr 1 0),(.val (.int .i64 0))])))))))∧
 (aI prog (λ_=>.none) (.slice 78 (.tmp 71) .none (.some (.tmp 72)) .none) [(71,(.vec 5 (L) .none)),(72,(.val (.int .i64 ((↑k:Int)))))] (.vec 5 (List.take k L) .none)∧
 (aI prog (λ_=>.none) (.slice 78 (.tmp 82) (.some (.tmp 83)) .none .none) [(82,(.vec 5 (L) .none)),(83,(.val (.int .i64 ((↑k:Int)))))] (.vec 5 (drop k L) .none)∧
 (aN prog (λ_=>.none) 0 ⟨[(.cells [(.vec 5 (L) .none)]),(.cells [(.val (.int .i64 (i))),(.val (.int .u32 (a))),(.val (.int .i64 (c)))])],[]⟩ (.call ⟨(.builtin .append),#[(.tmp 67),(.tmp 73)],#[78,78]⟩) [(67,(.vec 5 [] .full)),(73,(.vec 5 (List.take k L) .none))] (.vec 5 (List.take k L) (.tail 0 (length (List.take k L)))) ⟨[(.cells [(.vec 5 (L) .none)]),(.cells [(.val (.int .i64 (i))),(.val (.int .u32 (a))),(.val (.int .i64 (c)))])],[((length (List.take k L)),(5,false))]⟩∧
 (((@Eq (Option TV) (.some (.vec 5 (L) .none)) (.some (.vec 5 (L) .none)))∧
 ((@Eq (Option TV) (.some (.agg [(.val (.int .i64 (i))),(.val (.int .u32 (a))),(.val (.int .i64 (c)))])) (.some (.agg [(.val (.int .i64 (i))),(.val (.int .u32 (a))),(.val (.int .i64 (c)))])))∧
 ((@Eq (Option TV) (.some (.vec 5 (L) .none)) (.some (.vec 5 (L) .none)))∧
 True)))∧
 (aN prog (λ_=>.none) 0 ⟨[(.cells [(.vec 5 (L) .none)]),(.cells [(.val (.int .i64 (i))),(.val (.int .u32 (a))),(.val (.int .i64 (c)))])],[((length (List.take k L)),(5,false))]⟩ (.call ⟨(.builtin .append),#[(.tmp 74),(.tmp 77)],#[78,78]⟩) [(74,(.vec 5 (List.take k L) (.tail 0 (length (List.take k L))))),(77,(.vec 5 [[(.val (.int .i64 (i))),(.val (.int .u32 (a))),(.val (.int .i64 (c))),(.val (.int .i64 0)),(.val (.int .i64 0))]] .full))] (.vec 5 (List.take k L++ [pC i a c (0:Int) (0:Int)]) (.tail 0 (length (List.take k L)+(1:Nat)))) ⟨[(.cells [(.vec 5 (L) .none)]),(.cells [(.val (.int .i64 (i))),(.val (.int .u32 (a))),(.val (.int .i64 (c)))])],[((length (List.take k L)+(1:Nat)),(5,false))]⟩∧
 (((@Eq (Option TV) (.some (.vec 5 (L) .none)) (.some (.vec 5 (L) .none)))∧
 ((@Eq (Option TV) (.some (.agg [(.val (.int .i64 (i))),(.val (.int .u32 (a))),(.val (.int .i64 (c)))])) (.some (.agg [(.val (.int .i64 (i))),(.val (.int .u32 (a))),(.val (.int .i64 (c)))])))∧
 ((@Eq (Option TV) (.some (.vec 5 (L) .none)) (.some (.vec 5 (L) .none)))∧
 True)))∧
 (aN prog (λ_=>.none) 0 ⟨[(.cells [(.vec 5 (L) .none)]),(.cells [(.val (.int .i64 (i))),(.val (.int .u32 (a))),(.val (.int .i64 (c)))])],[((length (List.take k L)+(1:Nat)),(5,false))]⟩ (.call ⟨(.builtin .append),#[(.tmp 78),(.tmp 84)],#[78,78]⟩) [(78,(.vec 5 (List.take k L++ [pC i a c (0:Int) (0:Int)]) (.tail 0 (length (List.take k L)+(1:Nat))))),(84,(.vec 5 (drop k L) .none))] (.vec 5 (List.take k L++ [pC i a c (0:Int) (0:Int)]++drop k L) (.tail 0 (length (List.take k L)+(1:Nat)+length (drop k L)))) ⟨[(.cells [(.vec 5 (L) .none)]),(.cells [(.val (.int .i64 (i))),(.val (.int .u32 (a))),(.val (.int .i64 (c)))])],[((length (List.take k L)+(1:Nat)+length (drop k L)),(5,false))]⟩∧
 Q (.val (.int .i64 0)) ⟨[(.cells [(.vec 5 (List.take k L++ [pC i a c (0:Int) (0:Int)]++drop k L) (.tail 0 (length (List.take k L)+(1:Nat)+length (drop k L))))]),(.cells [(.val (.int .i64 (i))),(.val (.int .u32 (a))),(.val (.int .i64 (c)))])],[((length (List.take k L)+(1:Nat)+length (drop k L)),(5,false))]⟩))))))))))))))))):=by kernel_rfl
theorem C4 (L:List (List TV))(i a c i' a' c' p' u':Int)(j:Nat)(Q:Exit→List TV→VT→List Nat→Nat→Prop):vx prog ae c9 (bw [(999998,.dead,none),(56,.elt (pC i' a' c' p' u'),none)]) 300 bq none 0 (dh prog lr 1) (ax 88 C1 (C2 j)) (mL L [.cells (da i a c)]) [] (dl C1 Q)=
 (bif decide ((↑j:Int)<(↑(length L):Int))
 then (aI prog (λ_=>.none) (.indexAddr 78 (.tmp 54) (.tmp 55)) [(54,(.vec 5 (L) .none)),(55,(.val (.int .i64 ((↑j:Int)))))] (.elt [(.val (.int .i64 (i'))),(.val (.int .u32 (a'))),(.val (.int .i64 (c'))),(.val (.int .i64 (p'))),(.val (.int .i64 (u')))])∧
 (bif decide (i' <i)
 then Q .normal [(.ptr 0 0),(.ptr 1 0),(.val (.int .i64 (wrap i64 ((↑j:Int)+(1:Int)))))] ⟨[(.cells [(.vec 5 (L) .none)]),(.cells [(.val (.int .i64 (i))),(.val (.int .u32 (a))),(.val (.int .i64 (c)))])],[]⟩ [] 88
 else Q (.exit 1) [(.ptr 0 0),(.ptr 1 0),(.val (.int .i64 ((↑j:Int))))] ⟨[(.cells [(.vec 5 (L) .none)]),(.cells [(.val (.int .i64 (i))),(.val (.int .u32 (a))),(.val (.int .i64 (c)))])],[]⟩ [] 88))
 else Q (.exit 1) [(.ptr 0 0),(.ptr 1 0),(.val (.int .i64 ((↑j:Int))))] ⟨[(.cells [(.vec 5 (L) .none)]),(.cells [(.val (.int .i64 (i))),(.val (.int .u32 (a))),(.val (.int .i64 (c)))])],[]⟩ [] 88):=by kernel_rfl
theorem xT (L:List (List TV))(i c u r:Int)(k:Nat)(Q:TV→VT→Prop):aK prog ae (aE [(jZ,FD L i r)]) (bw [(999998,.dead,none),(37,.row 5 1 0 L.length,some λT=>T.newRow L.flatten),(52,.ptr 1 (k*5),none),(54,.ptr 1 (k*5),none),(53,.ptr 1 (k*5+3),none),(55,.ptr 1 (k*5+4),none),(500053,.val undef,some λT=>{T with objs:=T.objs.set 1 (.row (aU L.flatten (k*5+3) [.val (.int .i64 c)]))}),(500055,.val undef,some λT=>{T with objs:=T.objs.set 1 (.row (aU (aU L.flatten (k*5+3) [.val (.int .i64 c)]) (k*5+4) [.val (.int .i64 u)]))})]) 300 bq 0 xS [.ptr 0 0,.val (.int .i64 i),.val (.int .i64 c),.val (.int .i64 u)] (mL L []) Q=
 (((@Eq (Nat) 0 0)∧
 ((@Eq (List TV) [(.ptr 0 0),(.val (.int .i64 (i)))] [(.ptr 0 0),(.val (.int .i64 (i)))])∧
 (@Eq (Option VO) (.some (.cells [(.vec 5 (L) .none)])) (.some (.cells [(.vec 5 (L) .none)])))))∧
 (bif decide (r<(0:Int))
 then Q (.val (.int .i64 7)) ⟨[(.cells [(.vec 5 (L) .none)])],[]⟩
 else (bif decide (c<(0:Int))
 then Q (.val (.int .i64 2)) ⟨[(.cells [(.vec 5 (L) .none)])],[]⟩
 else (bif decide (c>(1000000:Int))
 then Q (.val (.int .i64 2)) ⟨[(.cells [(.vec 5 (L) .none)])],[]⟩
 else (bif decide (u<(0:Int))
 then Q (.val (.int .i64 2)) ⟨[(.cells [(.vec 5 (L) .none)])],[]⟩
 else (bif decide (u>(1099511627776:Int))
 then Q (.val (.int .i64 2)) ⟨[(.cells [(.vec 5 (L) .none)])],[]⟩
 else (aN prog (λ_=>.none) 0 ⟨[(.cells [(.vec 5 (L) .none)])],[]⟩ (.call ⟨(.builtin .append),#[(.tmp 32),(.tmp 36)],#[78,78]⟩) [(32,(.vec 5 [] .full)),(36,(.vec 5 (L) .none))] (.row 5 1 0 (length L)) ⟨[(.cells [(.vec 5 (L) .none)]),(.row (flatten L))],[]⟩∧
 (aI prog (λ_=>.none) (.indexAddr 78 (.tmp 43) (.tmp 44)) [(43,(.row 5 1 0 (length L))),(44,(.val (.int .i64 (r))))] (.ptr 1 (k*(5:Nat)))∧
 (aI prog (λ_=>.none) (.fieldAddr 140 (.tmp 52) 1) [(52,(.ptr 1 (k*(5:Nat))))] (.ptr 1 (k*(5:Nat)+(3:Nat)))∧
 (aN prog (λ_=>.none) 0 ⟨[(.cells [(.row 5 1 0 (length L))]),(.row (flatten L))],[]⟩ (.store 3 (.tmp 53) (.tmp 50)) [(53,(.ptr 1 (k*(5:Nat)+(3:Nat)))),(50,(.val (.int .i64 (c))))] (.val (.tuple #[])) ⟨[(.cells [(.row 5 1 0 (length L))]),(.row (aU (flatten L) (k*(5:Nat)+(3:Nat)) [TV.val (Value.int i64 c)]))],[]⟩∧
 (aI prog (λ_=>.none) (.indexAddr 78 (.tmp 48) (.tmp 49)) [(48,(.row 5 1 0 (length L))),(49,(.val (.int .i64 (r))))] (.ptr 1 (k*(5:Nat)))∧
 (aI prog (λ_=>.none) (.fieldAddr 140 (.tmp 54) 2) [(54,(.ptr 1 (k*(5:Nat))))] (.ptr 1 (k*(5:Nat)+(4:Nat)))∧
 (aN prog (λ_=>.none) 0 ⟨[(.cells [(.row 5 1 0 (length L))]),(.row (aU (flatten L) (k*(5:Nat)+(3:Nat)) [TV.val (Value.int i64 c)]))],[]⟩ (.store 3 (.tmp 55) (.tmp 51)) [(55,(.ptr 1 (k*(5:Nat)+(4:Nat)))),(51,(.val (.int .i64 (u))))] (.val (.tuple #[])) ⟨[(.cells [(.row 5 1 0 (length L))]),(.row (aU (aU (flatten L) (k*(5:Nat)+(3:Nat)) [TV.val (Value.int i64 c)]) (k*(5:Nat)+(4:Nat)) [TV.val (Value.int i64 u)]))],[]⟩∧
 Q (.val (.int .i64 0)) ⟨[(.cells [(.row 5 1 0 (length L))]),(.row (aU (aU (flatten L) (k*(5:Nat)+(3:Nat)) [TV.val (Value.int i64 c)]) (k*(5:Nat)+(4:Nat)) [TV.val (Value.int i64 u)]))],[]⟩))))))))))))):=by kernel_rfl
section
open Go.RowKit Go.Maps Go.Sort
abbrev Rw:=aO × Int × Int
def aX (r:Rw):List TV:= [.val (.int .i64 r.1.1),.val (.int .u32 r.1.2.1),.val (.int .i64 r.1.2.2),.val (.int .i64 r.2.1),.val (.int .i64 r.2.2)]
def bk (S:List aO)(R:cN):List Rw:=(bC S).map λs=>(s,lq R s.1)
structure lu (S:List aO) (R:cN):Prop where
 nd:(S.map (·.1)).Nodup
 few:S.length≤8
 gone:∀i,S.find? (λs=>s.1==i)=none→R i=none
def sY (a b:Rw):Prop:=a.1.1<b.1.1
theorem qR:∀{l m:List Rw},l.Pairwise sY→m.Pairwise sY→(∀x,x∈l ↔ x∈m)→l=m
 |[],[],_,_,_=>rfl
 |[],b::m,_,_,h=>by have:=(h b).2 (by simp);simp at this
 |a::l,[],_,_,h=>by have:=(h a).1 (by simp);simp at this
 |a::l,b::m,hl,hm,h=>by
  obtain ⟨hl1,hl2⟩:=pairwise_cons.1 hl
  obtain ⟨hm1,hm2⟩:=pairwise_cons.1 hm
  have e:a=b:=by
   rcases mem_cons.1 ((h a).1 (by simp)) with h1 | h1
   ·exact h1
   ·rcases mem_cons.1 ((h b).2 (by simp)) with h2 | h2
    ·exact h2.symm
    ·have:=hm1 a h1;have:=hl1 b h2;unfold sY at*;omega
  subst e
  congr 1
  refine qR hl2 hm2 λx=>⟨λhx=> ?_,λhx=> ?_⟩
  ·rcases mem_cons.1 ((h x).1 (mem_cons_of_mem _ hx)) with rfl | h1
   ·have:=hl1 x hx;unfold sY at this;omega
   ·exact h1
  ·rcases mem_cons.1 ((h x).2 (mem_cons_of_mem _ hx)) with rfl | h1
   ·have:=hm1 x hx;unfold sY at this;omega
   ·exact h1
theorem xU {S:List aO}(h:(S.map (·.1)).Nodup):(bU S).Pairwise (· < ·):=by
 have h1:=List.pairwise_mergeSort (le:=leI) (λa b c h1 h2=>by simp only [leI,decide_eq_true_eq] at*;omega) (λa b=>by simp only [leI,Bool.or_eq_true,decide_eq_true_eq];omega) (S.map (·.1))
 have h2:(bU S).Nodup:=by unfold bU;exact (List.mergeSort_perm (S.map λs:aO=>s.1) leI).nodup_iff.2 h
 refine List.Pairwise.imp₂ (S:=λa b=>a≠b) (λa b h1 h2=> ?_) h1 h2
 simp only [leI,decide_eq_true_eq] at h1
 omega
theorem zx {S:List aO}{z:Int}(h:z∈S.map (·.1)):dV S z∈S∧(dV S z).1=z:=by
 obtain ⟨s0,hs0,he⟩:=mem_map.1 h
 unfold dV
 cases hf:S.find? λs=>s.1==z with
 |none=>
  have:=List.find?_eq_none.1 hf s0 hs0
  simp [he] at this
 |some s=>exact ⟨List.mem_of_find?_eq_some hf,by simpa using List.find?_some hf⟩
theorem rD (S:List aO):bC S=(bU S).map (dV S):=rfl
theorem pD {S:List aO}{z:Int}:z∈bU S ↔ z∈S.map (·.1):=(List.mergeSort_perm (S.map (·.1)) leI).mem_iff
theorem xV:∀{S:List aO} {s:aO},(S.map (·.1)).Nodup→s∈S→S.find? (λt=>t.1==s.1)=some s
 |[],_,_,h=>by simp at h
 |t::S,s,hd,h=>by
  obtain ⟨h1,h2⟩:=List.nodup_cons.1 (show (t.1::S.map λs:aO=>s.1).Nodup from hd)
  rw [List.find?_cons]
  rcases mem_cons.1 h with rfl | h
  ·simp
  ·have:(t.1==s.1)=false:=by
    rw [beq_eq_false_iff_ne]
    intro e
    exact h1 (by rw [e];exact List.mem_map_of_mem h)
   rw [this]
   exact xV h2 h
theorem xW {S:List aO}(hd:(S.map (·.1)).Nodup){s:aO}:s∈bC S ↔ s∈S:=by
 constructor
 ·exact λh=>(rA h).1
 ·intro h
  rw [rD]
  refine mem_map.2 ⟨s.1,pD.2 (List.mem_map_of_mem h),?_⟩
  unfold dV
  rw [xV hd h];rfl
theorem yz {S:List aO}(hd:(S.map (·.1)).Nodup):(bC S).Pairwise λa b=>a.1<b.1:=by
 rw [rD,List.pairwise_map]
 refine List.Pairwise.imp_of_mem (λ{a b} ha hb hab=> ?_) (xU hd)
 rw [(zx (pD.1 ha)).2,(zx (pD.1 hb)).2]
 exact hab
theorem mu {S:List aO}(hd:(S.map (·.1)).Nodup)(R:cN):(bk S R).Pairwise sY:=by
 unfold bk
 rw [List.pairwise_map]
 exact yz hd
theorem ij {S:List aO}(hd:(S.map (·.1)).Nodup){R:cN}{r:Rw}:r∈bk S R ↔ r.1∈S∧r.2=lq R r.1.1:=by
 unfold bk
 rw [mem_map]
 constructor
 ·rintro ⟨s,hs,rfl⟩
  exact ⟨(xW hd).1 hs,rfl⟩
 ·rintro ⟨h1,h2⟩
  exact ⟨r.1,(xW hd).2 h1,by rw [←h2]⟩
theorem xX {S:List aO}(R:cN):(bk S R).length=S.length:=by
 unfold bk;rw [length_map,rD,length_map,lY]
def j5 (L:List Rw)(i:Int):Option Nat:=L.findIdx? λr=>r.1.1==i
theorem rE {L:List Rw}{i:Int}{k:Nat}(h:j5 L i=some k):∃r,L[k]?=some r∧r.1.1=i∧∀j r',j<k→L[j]?=some r'→r'.1.1≠i:=by
 unfold j5 at h
 obtain ⟨hk,h1,h2⟩:=List.findIdx?_eq_some_iff_getElem.1 h
 refine ⟨L[k],getElem?_eq_getElem hk,by simpa using h1,λj r' hj hr=> ?_⟩
 have:=h2 j hj
 obtain ⟨hj2,rfl⟩:=List.getElem?_eq_some_iff.1 hr
 simpa using this
theorem EM {L:List Rw}{i:Int}(h:j5 L i=none):∀r∈L,r.1.1≠i:=λr hr=>by
 have:=List.findIdx?_eq_none_iff.1 h r hr
 simpa using this
theorem zy {S:List aO}(hd:(S.map (·.1)).Nodup){R:cN}{i:Int}:(j5 (bk S R) i).isSome=ez S i:=by
 unfold ez
 cases hf:j5 (bk S R) i with
 |none=>
  have h1:=EM hf
  cases hs:S.find? λs=>s.1==i with
  |none=>rfl
  |some s=>
   have h2:=List.mem_of_find?_eq_some hs
   have h3:s.1=i:=by simpa using List.find?_some hs
   exact absurd h3 (h1 (s,lq R s.1) ((ij hd).2 ⟨h2,rfl⟩))
 |some k=>
  obtain ⟨r,h1,h2,_⟩:=rE hf
  have h3:=((ij hd).1 (List.mem_of_getElem? h1)).1
  cases hs:S.find? λs=>s.1==i with
  |none=>
   have:=List.find?_eq_none.1 hs r.1 h3
   simp [h2] at this
  |some s=>rfl
theorem C5 {p:Rw→Bool}{r:Rw}:∀{l:List Rw},r∈l.takeWhile p→p r=true
 |[],h=>by simp at h
 |a::l,h=>by
  rw [takeWhile_cons] at h
  split at h
  ·rename_i ha
   rcases mem_cons.1 h with rfl | h
   ·exact ha
   ·exact C5 h
  ·simp at h
theorem C6 {p:Rw→Bool}:∀{l:List Rw},(∀r∈l,p r=true)→l.takeWhile p=l
 |[],_=>rfl
 |a::l,h=>by
  rw [takeWhile_cons,if_pos (h a mem_cons_self),C6 λr hr=>h r (mem_cons_of_mem _ hr)]
def kA (L:List Rw)(i:Int):Nat:=(L.takeWhile λr=>decide (r.1.1<i)).length
theorem Ki (L:List Rw)(i:Int):kA L i≤L.length:=(List.takeWhile_sublist _).length_le
theorem zA:∀(L:List Rw) (i:Int),L.take (kA L i)=L.takeWhile λr=>decide (r.1.1<i)
 |[],_=>rfl
 |a::L,i=>by
  unfold kA
  rw [takeWhile_cons]
  split
  ·rw [length_cons,take_succ_cons]
   exact congrArg (List.cons a) (zA L i)
  ·rfl
theorem FE {L:List Rw}{i:Int}:∀r∈L.take (kA L i),r.1.1<i:=λr hr=>by
 rw [zA] at hr
 have:=C5 hr
 simpa using this
theorem FF:∀{L:List Rw} {i:Int},L.Pairwise sY→∀r∈L.drop (kA L i),i≤r.1.1
 |[],_,_,r,hr=>by simp at hr
 |a::L,i,hp,r,hr=>by
  obtain ⟨h1,h2⟩:=pairwise_cons.1 hp
  unfold kA at hr
  rw [takeWhile_cons] at hr
  split at hr
  ·rw [length_cons,List.drop_succ_cons] at hr
   exact FF h2 r hr
  ·rename_i hc
   have hc:¬a.1.1<i:=by simpa using hc
   rw [length_nil,List.drop_zero] at hr
   rcases mem_cons.1 hr with rfl | hr
   ·omega
   ·have:=h1 r hr;unfold sY at this;omega
theorem GU {L:List Rw}{i:Int}{j:Nat}{r:Rw}(h:L[j]?=some r)(hj:∀k r',k<j→L[k]?=some r'→r'.1.1<i)(hr:¬r.1.1<i):kA L i=j:=by
 rcases Nat.lt_trichotomy (kA L i) j with h1 | h1 | h1
 ·obtain ⟨hjl,_⟩:=List.getElem?_eq_some_iff.1 h
  have hk:kA L i<L.length:=by omega
  have h2:=hj _ _ h1 (getElem?_eq_getElem hk)
  exfalso
  --the row at kA is not below i
  have:∀(L:List Rw) (hk:kA L i<L.length),¬(L[kA L i]'hk).1.1<i:=by
   intro L
   induction L with
   |nil=>intro hk;simp at hk
   |cons a L ih=>
    intro hk hlt
    have e:kA (a::L) i=if a.1.1<i then kA L i+1 else 0:=by
     unfold kA
     rw [takeWhile_cons]
     by_cases c:a.1.1<i
     ·simp [c]
     ·simp [c]
    by_cases c:a.1.1<i
    ·simp only [e,if_pos c,List.getElem_cons_succ,length_cons] at hk hlt
     exact ih (by omega) hlt
    ·simp only [e,if_neg c,List.getElem_cons_zero] at hlt
     exact c hlt
  exact this L hk h2
 ·exact h1
 ·have h2:r∈L.take (kA L i):=List.mem_of_getElem? (by rw [List.getElem?_take,if_pos h1];exact h)
  exact absurd (FE r h2) hr
theorem IS {L:List Rw}{i:Int}(h:∀k r',k<L.length→L[k]?=some r'→r'.1.1<i):kA L i=L.length:=by
 unfold kA
 rw [C6]
 intro r hr
 obtain ⟨k,hk,rfl⟩:=List.getElem_of_mem hr
 simpa using h k _ hk (getElem?_eq_getElem hk)
theorem EN {S:List aO}{R:cN}(g:lu S R){t:aO}(hn:S.find? (λs=>s.1==t.1)=none):
  bk (S++ [t]) R=(bk S R).take (kA (bk S R) t.1)++ [(t,0,0)]++(bk S R).drop (kA (bk S R) t.1):=by
 have hne:∀s∈S,s.1≠t.1:=λs hs=>by have:=List.find?_eq_none.1 hn s hs;simpa using this
 have hd2:((S++ [t]).map (·.1)).Nodup:=by
  rw [map_append]
  refine List.nodup_append.2 ⟨g.nd,by simp,λa ha b hb e=> ?_⟩
  obtain ⟨s,hs,rfl⟩:=mem_map.1 ha
  exact hne s hs (e.trans (by simpa using hb))
 have hs:=mu g.nd R
 have hge:=FF (i:=t.1) hs
 have hlt:=FE (L:=bk S R) (i:=t.1)
 have h0:lq R t.1=(0,0):=by unfold lq;rw [g.gone t.1 hn];rfl
 have hmem:∀x,x∈bk S R ↔ x∈(bk S R).take (kA (bk S R) t.1)∨x∈(bk S R).drop (kA (bk S R) t.1):=λx=>by
  rw [←mem_append,List.take_append_drop]
 refine qR (mu hd2 R) ?_ λx=> ?_
 ·rw [append_assoc,List.pairwise_append]
  refine ⟨hs.sublist (List.take_sublist _ _),?_,?_⟩
  ·rw [List.singleton_append,pairwise_cons]
   refine ⟨λr hr=> ?_,hs.sublist (List.drop_sublist _ _)⟩
   have h1:=hge r hr
   have h2:=hne r.1 ((ij g.nd).1 (List.mem_of_mem_drop hr)).1
   show t.1<r.1.1
   omega
  ·intro a ha b hb
   have h1:=hlt a ha
   rcases mem_append.1 hb with hb | hb
   ·rw [mem_singleton.1 hb];exact h1
   ·have:=hge b hb
    show a.1.1<b.1.1
    omega
 ·rw [ij hd2]
  simp only [mem_append,mem_singleton]
  constructor
  ·rintro ⟨h1 | h1,h2⟩
   ·have:=(hmem x).1 ((ij g.nd).2 ⟨h1,h2⟩)
    rcases this with h | h
    ·exact .inl (.inl h)
    ·exact .inr h
   ·refine .inl (.inr ?_)
    rw [h1,h0] at h2
    exact Prod.ext h1 h2
  ·rintro ((h | h) | h)
   ·obtain ⟨h1,h2⟩:=(ij g.nd).1 ((hmem x).2 (.inl h));exact ⟨.inl h1,h2⟩
   ·subst h;exact ⟨.inr rfl,h0.symm⟩
   ·obtain ⟨h1,h2⟩:=(ij g.nd).1 ((hmem x).2 (.inr h));exact ⟨.inl h1,h2⟩
theorem EO {S:List aO}{R:cN}(g:lu S R){i:Int}{k:Nat}{r:Rw}(hk:j5 (bk S R) i=some k)(hr:(bk S R)[k]?=some r)(p:Int × Int):
  bk S (jY i p R)=(bk S R).set k (r.1,p):=by
 obtain ⟨r',h1,h2,h3⟩:=rE hk
 rw [hr] at h1;injection h1 with h1;subst h1
 have hs:=mu g.nd R
 apply ext_getElem?
 intro j
 rw [getElem?_set]
 have hl:k<(bk S R).length:=(List.getElem?_eq_some_iff.1 hr).1
 have e1:(bk S (jY i p R))[j]?=(bC S)[j]?.map λs:aO=>(s,lq (jY i p R) s.1):=by unfold bk;rw [getElem?_map]
 have e2:∀j:Nat,(bk S R)[j]?=(bC S)[j]?.map λs:aO=>(s,lq R s.1):=λj=>by unfold bk;rw [getElem?_map]
 rw [e1]
 cases hb:(bC S)[j]? with
 |none=>
  have hn:(bk S R)[j]?=none:=by rw [e2,hb];rfl
  have:(bk S R).length≤j:=List.getElem?_eq_none_iff.1 hn
  rw [if_neg (by omega),hn];rfl
 |some s=>
  have hj:(bk S R)[j]?=some (s,lq R s.1):=by rw [e2,hb];rfl
  simp only [map_some]
  by_cases hkj:k=j
  ·subst hkj
   rw [if_pos rfl,if_pos hl]
   rw [hr] at hj;injection hj with hj
   have:r.1=s:=by rw [hj]
   rw [this] at h2 ⊢
   have:lq (jY i p R) s.1=p:=by simp [lq,jY,h2]
   rw [this]
  ·rw [if_neg hkj,hj]
   have hne:s.1≠i:=by
    intro e
    have hjl:=(List.getElem?_eq_some_iff.1 hj).1
    rcases lt_or_ge j k with h | h
    ·exact h3 j _ h hj e
    ·have hp:=List.pairwise_iff_getElem.1 hs k j hl hjl (by omega)
     rw [(List.getElem?_eq_some_iff.1 hr).2,(List.getElem?_eq_some_iff.1 hj).2] at hp
     unfold sY at hp
     simp only [e,h2] at hp
     omega
   have:(i==s.1)=false:=by rw [beq_eq_false_iff_ne];exact λe=>hne e.symm
   simp only [lq,jY,this,cond_false]
end
end Go.Proofs.YtgboehkdijjnkaaGreatDoor