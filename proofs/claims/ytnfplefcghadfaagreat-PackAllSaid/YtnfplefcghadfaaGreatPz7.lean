/-Part 7 of the proof of packAll_holds:PqB,PqC,Vgs ... No condition. -/
import Derived.Test.YtnfplefcghadfaaGreatPz1
import Derived.Test.YtnfplefcghadfaaGreatPz2
import Derived.Test.YtnfplefcghadfaaGreatPz3
import Derived.Test.YtnfplefcghadfaaGreatPz4
import Derived.Test.YtnfplefcghadfaaGreatPz5
import Derived.Test.YtnfplefcghadfaaGreatPz6
set_option maxRecDepth 100000
namespace Go.Proofs.YtnfplefcghadfaaGreat
section
open Go.RowKit

def BvR (b:Bs):Prop:=∀f g,bG f g b=b
def jh:TV→Nat
 | .vec _ b _=>b.length
 | _=>0
def eC (x:TV) (k:Int):Prop:=(k=2∨k=4)∧(x= .val (.slice none 0 0)∨∃(b:Bs) (tk:Tok),x= .vec 1 b tk∧BvR b∧b.length≤50000)
def dA (x:TV) (_:Int) (q:Bs):Prop:=BvR q∧q.length≤jh x+4
def GI (l:List TV):Prop:=∃(f t:Int) (v:Bs),l= [.val (.int .i64 f), .val (.int .i64 t), .vec 1 v .none]∧(f=64∨f=128)∧BvR v∧v.length≤100
def vE (_:List TV) (q:Bs):Prop:=BvR q∧q.length≤103
def gW (r:Int × Int × Bs):List TV:= [.val (.int .i64 r.1), .val (.int .i64 r.2.1), .vec 1 r.2.2 .none]
def sY (r:Int × Int × Bs):Prop:=(r.1=64∨r.1=128)∧BvR r.2.2∧r.2.2.length≤100
def lE (L:Bs):Prop:=∃rs:List (Int × Int × Bs),(∀tok,TVle (.vec 3 L tok) (.vec 3 (rs.map gW) .none))∧rs.length≤4∧∀r∈rs,sY r
def ik (_ q:Bs):Prop:=BvR q∧q.length≤500
def GJ (l:List TV):Prop:=∃a:AtV,l=a.cells∧cX a=true
def vF (q:Bs):Prop:=BvR q∧q.length≤500
def vG (_:AtV) (q:Bs):Prop:=BvR q∧q.length≤100
def Bv (a:AtV):Bs:= [[.val (.int .u8 2)], [.val (.int .u8 (IntKind.wrap IntKind.u8 (↑(List.length (iV a.p)):Int)))]]
def f9 (n:Int):Prop:=0≤n∧n≤32
def kH (n:Int):Nat:=kg n
def je (a n:Int):Int:=IntKind.wrap IntKind.u32 (↑(BitVec.toNat (BitVec.ofInt (IntKind.bits IntKind.u32) a&&&BitVec.ofInt (IntKind.bits IntKind.u32) (↑(kH n):Int))):Int)
def Bw (_ n:Int):Prop:=0≤n∧n≤32
def vH (q:Bs):Prop:=BvR q∧q.length≤5
def pM (L:Bs):Prop:=∃ps:List Px,L=an ps∧ps.length≤200∧∀p∈ps,0≤p.2∧p.2≤32
def jE (L q:Bs):Prop:=BvR q∧q.length≤5*L.length
def Bx (l:List TV) (b:Bool):Prop:=∃a:AtV,l=a.cells∧a.p.length≤9223372036854775807∧b=cX a
def jF (l m:List TV) (b:Bool):Prop:=∃a c:AtV,TVleL l a.cells∧TVleL m c.cells∧a.p.length≤9223372036854775807∧b=decide (a=c)
def GK (l m:List TV) (b:Bool):Prop:=jF l m b
def GL (a n:Int):Prop:=gg a n
structure kI (u:UpV):Prop where
 w:u.w.length≤100
 n:u.n.length≤100
 p:u.a.p.length≤9223372036854775807
 pi:∀p∈u.w++u.n,gg p.1 p.2
def GM (l:List TV) (b:Bool):Prop:=∃u:UpV,l=u.cells∧kI u∧b=dO u
def GN (l:List TV):Prop:=∃u:UpV,l=u.cells∧kI u∧dO u=true
def vI (_:List TV) (q:Bs):Prop:=BvR q∧q.length≤4077
def vJ (l:List TV):Prop:=∃u:UpV,TVleL l u.cells∧kI u
def vK (_:List TV) (z:Int):Prop:=z≤4077
def By (L M:Bs):Prop:=∃ps:List Px,L=an ps∧M=an ps∧ps.length≤2000000
def GO (l m:List TV):Prop:=∃u:UpV,l=u.cells∧m=u.cells∧u.w.length≤2000000∧u.n.length≤2000000∧u.a.p.length≤9223372036854775807
def bC (u:UpV) (c:Ch):UpV × Bool:=bif c.2.2 then (⟨u.w++ [c.1],u.a,u.n⟩,u.n.isEmpty) else bif !u.n.isEmpty&& !decide (u.a=c.2.1) then (u,false) else (⟨u.w,c.2.1,u.n++ [c.1]⟩,u.w.isEmpty)
def nm (l c:List TV) (w:Bs) (a:AtV) (n:Bs) (ok:Bool):Prop:=∃(u:UpV) (d:Ch),TVleL l u.cells∧c=ag d∧(u.w.length≤60∧u.n.length≤60∧kI u)∧(d.2.1.p.length≤9223372036854775807∧gg d.1.1 d.1.2)∧w=an (bC u d).1.w∧a=(bC u d).1.a∧n=an (bC u d).1.n∧ok=(bC u d).2
structure CdOk (cs:List Ch):Prop where
 few:cs.length≤60
 at' :∀c∈cs,(c.2.1.p.length≤9223372036854775807∧0≤c.2.1.h∧c.2.1.h<4294967296)∧gg c.1.1 c.1.2
theorem CdOk.cs {cs:List Ch} (h:CdOk cs):CsOk cs:=⟨by have:=h.few;omega,fun c hc=>(h.at' c hc).1⟩
def vL (l:List TV) (b:Bool):Prop:=∃c:Ch,l=ag c∧c.2.1.p.length≤9223372036854775807∧gg c.1.1 c.1.2∧b=cC c
def Bz (L R:Bs):Prop:=∃cs:List Ch,L=cs.map ag∧CdOk cs∧R=(bt cs).map ag
def BA (L U:Bs):Prop:=∃cs:List Ch,L=cs.map ag∧CdOk cs∧U=(bQ cs).map UpV.cells
def GP (U L:Bs):Prop:=∃us:List UpV,U=us.map UpV.cells∧us.length≤50000∧(bO us).length≤1000000∧L=(bO us).map ag
def sZ (L M:Bs) (b:Bool):Prop:=∃cs ds:List Ch,L=cs.map ag∧M=ds.map ag∧CsOk cs∧CsOk ds∧b=decide (cs=ds)
def jG (L:Bs):Prop:=∃cs:List Ch,L=cs.map ag∧cs.length≤1000000
def BB (L:Bs):Prop:=∃us:List UpV,L=us.map UpV.cells∧us.length≤1000000
def nn (L:Bs) (b:Bool):Prop:=∃cs:List Ch,L=cs.map ag∧b=ig cs
def GQ (L R:Bs):Prop:=∃cs:List Ch,L=cs.map ag∧CsOk cs∧R=(bt cs).map ag
def BC (L U:Bs):Prop:=∃cs:List Ch,L=cs.map ag∧CsOk cs∧U=(bQ cs).map UpV.cells
def GR (U L:Bs):Prop:=∃us:List UpV,U=us.map UpV.cells∧us.length≤50000∧(bO us).length≤1000000∧L=(bO us).map ag
def Ea (l:List TV) (b:Bool):Prop:=∃c:Ch,l=ag c∧c.2.1.p.length≤9223372036854775807∧b=cC c
def Eb (L M:Bs) (b:Bool):Prop:=∃cs ds:List Ch,L=cs.map ag∧M=ds.map ag∧CsOk cs∧CsOk ds∧b=decide (cs=ds)
end
section
open Go.RowKit

abbrev gE:=81
abbrev tY:=106
abbrev kJ:=98
abbrev kK:=80
abbrev xI:=36
abbrev gi:=25
abbrev kL:=97
abbrev kM:=79
abbrev lR:=26
abbrev FU:=35
abbrev xJ:=30
abbrev np:=105
abbrev Me:=54
abbrev xK:=59
abbrev kN:=58
abbrev re:=43
abbrev xL:=10
abbrev lS:=24
abbrev cG:=7
abbrev en:=13
abbrev dn:=15
abbrev gj:=11
abbrev tZ:=18
abbrev ji:=8
abbrev jk:=9
abbrev jl:=3
abbrev BD:=12
abbrev BE:=6
abbrev BF:=14
abbrev BG:=16
abbrev BH:=17
abbrev BI:=4
abbrev BJ:=5
def t6:aM:=fun _ ys T K=>match ys with
 | [x, .val (.int .u64 _), .val (.int .i64 k)]=>eC x k∧∀qq:Bs,dA x k qq→K (.vec 1 qq .none) T
 | _=>ay 84 default ys
def BK:aM:=fun ro ys T K=>match ys with
 | [x, .val (.int .u64 _), .val (.int .i64 k)]=>((@Eq Nat ro 0)∧eC x k)∧∀qq:Bs,dA x k qq→K (.vec 1 qq (.tail T.tails.length qq.length)) {T with tails:=T.tails++ [(qq.length,1,false)]}
 | _=>ay 84 default ys
def BL:aM:=fun _ ys T K=>match ys with
 | [.agg l]=>GI l∧∀qq:Bs,vE l qq→K (.vec 1 qq .none) T
 | _=>ay 84 default ys
def BM:aM:=fun _ ys T K=>match ys with
 | [.vec 3 l _]=>lE l∧∀qq:Bs,ik l qq→K (.vec 1 qq .none) T
 | _=>ay 84 default ys
def BN:aM:=fun _ ys T K=>match ys with
 | [.agg l]=>GJ l∧∀qq:Bs,vF qq→K (.vec 1 qq .none) T
 | _=>ay 84 default ys
def BO:aM:=fun _ ys T K=>match ys with
 | [.agg [.val (.int .u32 a), .val (.int .i64 n)]]=>Bw a n∧∀qq:Bs,vH qq→K (.vec 1 qq .none) T
 | _=>ay 84 default ys
def BP:aM:=fun _ ys T K=>match ys with
 | [.vec 2 l _]=>pM l∧∀qq:Bs,jE l qq→K (.vec 1 qq .none) T
 | _=>ay 84 default ys
def o5:aM:=fun _ ys T K=>match ys with
 | [.agg [.val (.int .u32 a), .val (.int .i64 n)]]=>f9 n∧K (.agg [.val (.int .u32 (je a n)), .val (.int .i64 n)]) T
 | _=>ay 84 default ys
def t7 (b:Bool):aM:=fun _ ys T K=>match ys with
 | [.agg l]=>Bx l b∧K (.val (.bool b)) T
 | _=>ay 84 default ys
def il (b:Bool):aM:=fun _ ys T K=>match ys with
 | [.agg l, .agg m]=>jF l m b∧K (.val (.bool b)) T
 | _=>ay 84 default ys
def BQ (b:Bool):aM:=fun _ ys T K=>match ys with
 | [.agg l, .agg m]=>GK l m b∧K (.val (.bool b)) T
 | _=>ay 84 default ys
def BS:aM:=fun _ ys T K=>match ys with
 | [.agg [.val (.int .u32 a), .val (.int .i64 n)]]=>GL a n∧K (.val (.bool (dN a n))) T
 | _=>ay 84 default ys
def t8:aM:=fun _ ys T K=>match ys with
 | [.agg [.val (.int .u32 a), .val (.int .i64 n)], .agg [.val (.int .u32 b), .val (.int .i64 m)]]=>K (.val (.int .i64 (ez a n b m))) T
 | _=>ay 84 default ys
def BT (b:Bool):aM:=fun _ ys T K=>match ys with
 | [.agg l]=>GM l b∧K (.val (.bool b)) T
 | _=>ay 84 default ys
def BU:aM:=fun _ ys T K=>match ys with
 | [.agg l]=>GN l∧∀qq:Bs,vI l qq→K (.vec 1 qq .none) T
 | _=>ay 84 default ys
def ub:aM:=fun _ ys T K=>match ys with
 | [.agg l]=>vJ l∧∀qz:Int,vK l qz→K (.val (.int .i64 qz)) T
 | _=>ay 84 default ys
def BV:aM:=fun _ ys T K=>match ys with
 | [.vec 2 l _, .vec 2 m _]=>By l m∧K (.val (.bool true)) T
 | _=>ay 84 default ys
def BW:aM:=fun _ ys T K=>match ys with
 | [.agg l, .agg m]=>GO l m∧K (.val (.bool true)) T
 | _=>ay 84 default ys
def o6 (w:Bs) (a:AtV) (n:Bs) (ok:Bool):aM:=fun _ ys T K=>match ys with
 | [.agg l, .agg c]=>nm l c w a n ok∧K (.tup [.agg (aV w a n), .val (.bool ok)]) T
 | _=>ay 84 default ys
def rf (b:Bool):aM:=fun _ ys T K=>match ys with
 | [.agg l]=>vL l b∧K (.val (.bool b)) T
 | _=>ay 84 default ys
def xM (r:Bs):aM:=fun _ ys T K=>match ys with
 | [.vec 8 l _]=>GQ l r∧K (.vec 8 r .none) T
 | _=>ay 84 default ys
def xN (u:Bs):aM:=fun _ ys T K=>match ys with
 | [.vec 8 l _]=>BC l u∧K (.vec 7 u .none) T
 | _=>ay 84 default ys
def xO (l' :Bs):aM:=fun _ ys T K=>match ys with
 | [.vec 7 l _]=>GR l l' ∧K (.vec 8 l' .none) T
 | _=>ay 84 default ys
def xP (b:Bs→Bs→Bool):aM:=fun _ ys T K=>match ys with
 | [.vec 8 l _, .vec 8 m _]=>sZ l m (b l m)∧K (.val (.bool (b l m))) T
 | _=>ay 84 default ys
def xQ:aM:=fun _ ys T K=>match ys with
 | [.vec 8 l _]=>jG l∧K (.vec 8 l .none) T
 | _=>ay 84 default ys
def xR:aM:=fun _ ys T K=>match ys with
 | [.vec 7 l _]=>BB l∧K (.vec 7 l .none) T
 | _=>ay 84 default ys
def xS (b:Bs→Bool):aM:=fun _ ys T K=>match ys with
 | [.vec 8 l _, .val (.int .i64 60)]=>nn l (b l)∧K (.val (.bool (b l))) T
 | _=>ay 84 default ys
def xT:aM:=fun _ ys T K=>match ys with
 | []=>K (.val (.bool true)) T
 | _=>ay 84 default ys
def FV (c:Code):Nat→Option (br × Code):=bv [(0,fun _ _ _ _ _ _=>False,c)]
def cR:List Nat:= [3,6,7,8]
def lT (L:Bs) (o:Bs) (j:Int):List TV:= [.vec 1 o (.tail 0 o.length), .vec 3 L .none, .val (.int .i64 L.length), .val (.int .i64 j)]
def lF (n:Nat):VT:=⟨[], [(n,1,true)]⟩
def Ol (L:Bs) (c:Code):Nat→Option (br × Code):=bv [(0,bN 18 cR [(3,1)] (lT L [] 0) (lF 0) (fun K=>∀qo:Bs,ik L qo→K .normal (aj 18 cR (lT L qo L.length)) (lF qo.length) []),c)]
def lU (L:Bs) (o:Bs) (j:Int):List TV:= [.vec 1 o (.tail 0 o.length), .vec 2 L .none, .val (.int .i64 L.length), .val (.int .i64 j)]
def Om (L:Bs) (c:Code):Nat→Option (br × Code):=bv [(0,bN 18 cR [(3,1)] (lU L [] 0) (lF 0) (fun K=>∀qo:Bs,jE L qo→K .normal (aj 18 cR (lU L qo L.length)) (lF qo.length) []),c)]
def rg:List Nat:= [1,3,20,21,22]
def o7 (a:AtV) (o:Bs) (j:Int):List TV:= [.ptr 0 0, .vec 1 o .none, .vec 1 (iV a.p) .none, .val (.int .i64 (iV a.p).length), .val (.int .i64 j)]
def rh (a:AtV):VT:=⟨[.cells a.cells], []⟩
def Oo (a:AtV) (c:Code):Nat→Option (br × Code):=bv [(0,vA 56 rg [] [3] (o7 a (Bv a) 0) (rh a) (fun K=>∀qo:Bs,vG a qo→K .normal (aj 56 rg (o7 a qo (iV a.p).length)) (rh a) []),c)]
def nq:List Nat:= [2,1,11,12,13]
def jm (L:Bs) (tk:Tok) (j:Int):List TV:= [.val (.bool false), .ptr 0 0, .vec 2 L tk, .val (.int .i64 L.length), .val (.int .i64 j)]
def ri (w:Bs) (x:AtV) (n:Bs) (tl:eo):VT:=⟨[.cells (aV w x n)],tl⟩
def Oq (w:Bs) (x:AtV) (n L:Bs) (tk:Tok) (tl:eo) (b:Bool) (c:Code):Nat→Option (br × Code):=bv [(0,bN 32 nq [] (jm L tk 0) (ri w x n tl) (fun K=>bif b then K .normal (aj 32 nq (jm L tk L.length)) (ri w x n tl) [] else ∀(jj:Int) (oo:List VO),K .ret (aj 32 nq (jm L tk jj)) ⟨oo,tl⟩ []),c)]
def xU:List Nat:= [4,0,1,12,13]
def uc (L M:Bs) (j:Int):List TV:= [.val (.bool false), .vec 2 L .none, .vec 2 M .none, .val (.int .i64 L.length), .val (.int .i64 j)]
def Ot (L M:Bs) (c:Code):Nat→Option (br × Code):=bv [(0,bN 26 xU [] (uc L M 0) ⟨[], []⟩ (fun K=>K .normal (aj 26 xU (uc L M L.length)) ⟨[], []⟩ []),c)]
def nr:List Nat:= [4,0,1,12,13]
def kO (L M:Bs) (j:Int):List TV:= [.val (.bool false), .vec 8 L .none, .vec 8 M .none, .val (.int .i64 L.length), .val (.int .i64 j)]
def Ou (L M:Bs) (b:Bool) (c:Code):Nat→Option (br × Code):=bv [(0,bN 55 nr [] (kO L M 0) ⟨[], []⟩ (fun K=>bif b then K .normal (aj 55 nr (kO L M L.length)) ⟨[], []⟩ [] else ∀(jj:Int) (oo:List VO),K .ret (aj 55 nr (kO L M jj)) ⟨oo, []⟩ []),c)]
def kQ (L:Bs) (o:Bs) (j:Int):List TV:= [.vec 8 o (.tail 0 o.length), .vec 8 L .none, .val (.int .i64 L.length), .val (.int .i64 j)]
def eS (n:Nat):VT:=⟨[], [(n,8,true)]⟩
def Ov (L:Bs) (c:Code):Nat→Option (br × Code):=bv [(0,bN 24 cR [(3,8)] (kQ L [] 0) (eS 0) (fun K=>K .normal (aj 24 cR (kQ L L L.length)) (eS L.length) []),c)]
def kR (L:Bs) (o:Bs) (j:Int):List TV:= [.vec 7 o (.tail 0 o.length), .vec 7 L .none, .val (.int .i64 L.length), .val (.int .i64 j)]
def dB (n:Nat):VT:=⟨[], [(n,7,true)]⟩
def Ow (L:Bs) (c:Code):Nat→Option (br × Code):=bv [(0,bN 24 cR [(3,7)] (kR L [] 0) (dB 0) (fun K=>K .normal (aj 24 cR (kR L L L.length)) (dB L.length) []),c)]
def ns:List Nat:= [3,10,11,12]
def jn (l U:Bs) (j:Int):List TV:= [.vec 8 l (.tail 0 l.length), .vec 7 U .none, .val (.int .i64 U.length), .val (.int .i64 j)]
def Ox (l U:Bs) (c:Code):Nat→Option (br × Code):=bv [(0,bN 46 ns [(3,8)] (jn [] U 0) (eS 0) (fun K=>K .normal (aj 46 ns (jn l U U.length)) (eS l.length) []),c)]
def lV:List Nat:= [3,5,10,11,12,17,18,19]
def o8 (l U:Bs) (j:Int) (w:Bs) (i:Int):List TV:= [.vec 8 l (.tail 0 l.length), .ptr 0 0, .vec 7 U .none, .val (.int .i64 U.length), .val (.int .i64 j), .vec 2 w .none, .val (.int .i64 w.length), .val (.int .i64 i)]
def lW:List Nat:= [3,5,10,11,12,30,31,32]
def dP (w:Bs) (x:AtV) (n:Bs) (k:Nat):VT:=⟨[.cells (aV w x n)], [(k,8,true)]⟩
def Oy (l l1 l2 U:Bs) (j:Int) (w:Bs) (x:AtV) (n:Bs) (c d:Code):Nat→Option (br × Code):=bv [(2,bN 46 lV [] (o8 l U j w 0) (dP w x n l.length) (fun K=>K .normal (aj 46 lV (o8 l1 U j w w.length)) (dP w x n l1.length) []),c),(4,bN 46 lW [] (o8 l1 U j n 0) (dP w x n l1.length) (fun K=>K .normal (aj 46 lW (o8 l2 U j n n.length)) (dP w x n l2.length) []),d)]
def rj:List Nat:= [3,8,9,10]
def iL (O L:Bs) (j:Int):List TV:= [.vec 8 O .none, .vec 8 L .none, .val (.int .i64 L.length), .val (.int .i64 j)]
def nt:VT:=⟨[], [(0,8,true)]⟩
def Oz (O L:Bs) (c:Code):Nat→Option (br × Code):=bv [(0,vA 63 rj [(3,8)] [3] (iL [] L 0) nt (fun K=>K .normal (aj 63 rj (iL O L L.length)) nt []),c)]
def rl:List Nat:= [3,5,6,8,9,10]
def rm (O L:Bs) (j i:Int):List TV:= [.vec 8 O .none, .ptr 0 0, .val (.int .i64 i), .vec 8 L .none, .val (.int .i64 L.length), .val (.int .i64 j)]
def rp (a n:Int) (x:AtV) (g:Bool):VT:=⟨[.cells (az a n x g)], [(0,8,true)]⟩
def Mf (O L:Bs) (a n:Int) (x:AtV) (g:Bool) (j:Int) (p:Nat) (c:Code):Nat→Option (br × Code):=bv [(2,bN 63 rl [] (rm O L j 0) (rp a n x g) (fun K=>K .normal (aj 63 rl (rm O L j p)) (rp a n x g) []),c)]
def FW:aM:=fun _ ys T K=>match ys with
 | [.val (.int .i64 n)]=>f9 n∧K (.val (.int .u32 (kH n))) T
 | _=>ay 84 default ys
def jU (s:Nat) (F:fq):fq:=fun o xs T=>match o.dst with
 | some d=>bif Nat.beq d s then (match xs with
  | [.vec z l (.tail k _), .vec _ m _]=>(match T.tails[k]? with
   | some (_,_,bn)=>some (.vec z (l++m) (.tail k (l++m).length),some {T with tails:=T.tails.set k ((l++m).length,z,bn)})
   | none=>none)
  | [.vec z l (.tail k _), .val (.slice none 0 0)]=>(match T.tails[k]? with
   | some (_,_,bn)=>some (.vec z l (.tail k l.length),some {T with tails:=T.tails.set k (l.length,z,bn)})
   | none=>none)
  | [.vec z l .full, .val (.slice none 0 0)]=>some (.vec z l (.tail T.tails.length l.length),some {T with tails:=T.tails++ [(l.length,z,false)]})
  | [.vec z l .full, .vec _ m _]=>some (.vec z (l++m) (.tail T.tails.length (l++m).length),some {T with tails:=T.tails++ [((l++m).length,z,false)]})
  | _=>F o xs T) else F o xs T
 | none=>F o xs T
def pN (s:Nat) (F:fq):fq:=fun o xs T=>match o.dst with
 | some d=>bif Nat.beq d s then (match xs with
  | [.vec z l (.tail k n), .vec _ [[.val v]] _]=>(match T.tails[k]? with
   | some (_,_,bn)=>some (.vec z (l++ [[.val v]]) (.tail k (n+1)),some {T with tails:=T.tails.set k (n+1,z,bn)})
   | none=>none)
  | _=>F o xs T) else F o xs T
 | none=>F o xs T
def II (s c:Nat) (F:fq):fq:=fun o xs T=>match o.dst with
 | some d=>bif Nat.beq d s then (match xs with
  | [.vec z l .full, .vec _ m _]=>some (.vec z (l++m) (.tail T.tails.length c),some {T with tails:=T.tails++ [(c,z,false)]})
  | _=>F o xs T) else F o xs T
 | none=>F o xs T
def xV (u:Bs):aM:=fun _ ys T K=>match ys with
 | [.vec 8 l _]=>BA l u∧K (.vec 7 u .none) T
 | _=>ay 84 default ys
def xW (l' :Bs):aM:=fun _ ys T K=>match ys with
 | [.vec 7 l _]=>GP l l' ∧K (.vec 8 l' .none) T
 | _=>ay 84 default ys
def rq (r:Bs):aM:=fun _ ys T K=>match ys with
 | [.vec 8 l _]=>Bz l r∧K (.vec 8 r .none) T
 | _=>ay 84 default ys
def s7 (b:Bool):aM:=fun _ ys T K=>match ys with
 | [.agg l]=>Ea l b∧K (.val (.bool b)) T
 | _=>ay 84 default ys
def s8 (b:Bool):aM:=fun _ ys T K=>match ys with
 | [.vec 8 l _, .vec 8 m _]=>Eb l m b∧K (.val (.bool b)) T
 | _=>ay 84 default ys
def nu:List Nat:= [3,4]
def nv (l u:Bs):List TV:= [.vec 8 l .none, .vec 7 u (.tail 0 u.length)]
def OA (l u:Bs) (c:Code):Nat→Option (br × Code):=bv [(0,bN 120 nu [(4,7)] (nv l []) (dB 0) (fun K=>K .normal (aj 120 nu (nv [] u)) (dB u.length) []),c)]
def nw:List Nat:= [3,4,5,21,22,23]
def iM (l u:Bs) (f j:Int):List TV:= [.vec 8 l .none, .vec 7 u (.tail 0 u.length), .val (.int .i64 f), .vec 8 l .none, .val (.int .i64 l.length), .val (.int .i64 j)]
def fO:List Nat:= [3,4,5,8,9,10,32,33,34]
def dQ (l u r:Bs) (f j:Int):List TV:= [.vec 8 l .none, .vec 7 u (.tail 0 u.length), .val (.int .i64 f), .ptr 0 0, .vec 8 r (.tail 1 r.length), .val (.bool false), .vec 8 l .none, .val (.int .i64 l.length), .val (.int .i64 j)]
def eU (C:List TV) (u r:Nat):VT:=⟨[.cells C], [(u,7,true),(r,8,true)]⟩
def FX:List TV:= [.val (.slice none 0 0), .val (.int .i64 0), .val (.slice none 0 0), .val (.int .u32 0), .val (.int .i64 0), .val (.bool false), .val (.slice none 0 0)]
def Mg (l u r:Bs) (w:Bs) (x:AtV) (n:Bs) (f:Int) (c2 c4:Code):Nat→Option (br × Code):=bv [(2,bN 120 nw [] (iM l u 0 0) (dB u.length) (fun K=>∀jj:Int,K .normal (aj 120 nw (iM l u f jj)) (dB u.length) []),c2),(4,bN 120 fO [(9,8)] (dQ l u [] f 0) (eU FX u.length 0) (fun K=>K .normal (aj 120 fO (dQ l u r f l.length)) (eU (aV w x n) u.length r.length) []),c4)]
def rt:List Nat:= [0,1,5,6,29,30,31]
def nx (L M u:Bs) (j:Int):List TV:= [.vec 8 L .none, .vec 8 M .none, .vec 7 u .none, .vec 7 u .none, .vec 7 u .none, .val (.int .i64 u.length), .val (.int .i64 j)]
def OB (L M u:Bs) (c:Code):Nat→Option (br × Code):=bv [(0,bN 90 rt [] (nx L M u 0) ⟨[], []⟩ (fun K=>K .normal (aj 90 rt (nx L M u u.length)) ⟨[], []⟩ []),c)]
theorem IJ (b:Bs) (tk:Tok) (n:Int) (Q:TV→VT→Prop):aq Tryz.prog ae aR (pN 26 (aA [(999998, .dead,none),(11, .vec 1 b (.tail 0 b.length),some fun T=>{T with tails:= [(b.length,1,false)]})])) 300 aD 0 gE [.vec 1 b tk, .val (.int .u64 n), .val (.int .i64 2)] ⟨[], []⟩ Q=
 (aB Tryz.prog (fun _=> .none) 0 ⟨[], []⟩ (.call ⟨(.builtin .append), #[(.tmp 9),(.tmp 10)], #[94,94]⟩) [(9,(.vec 1 [] .full)),(10,(.vec 1 (b) (tk)))] (.vec 1 (b) (.tail 0 (List.length b))) ⟨[], [((List.length b),(1,false))]⟩∧
 (aB Tryz.prog (fun _=> .none) 0 ⟨[], [((List.length b),(1,false))]⟩ (.call ⟨(.builtin .append), #[(.tmp 18),(.tmp 25)], #[94,94]⟩) [(18,(.vec 1 (b) (.tail 0 (List.length b)))),(25,(.vec 1 [[(.val (.int .u8 (IntKind.wrap IntKind.u8 (Int.fdiv n ((2:Int)^min (Int.toNat (IntKind.wrap IntKind.u64 (IntKind.wrap IntKind.i64 ((8:Int)*IntKind.wrap IntKind.i64 ((2:Int)-(1:Int)))))) (IntKind.bits IntKind.u64))))))]] .full))] (.vec 1 (b++ [[TV.val (Value.int IntKind.u8 (IntKind.wrap IntKind.u8 (Int.fdiv n ((2:Int)^min (Int.toNat (IntKind.wrap IntKind.u64 (IntKind.wrap IntKind.i64 ((8:Int)*IntKind.wrap IntKind.i64 ((2:Int)-(1:Int)))))) (IntKind.bits IntKind.u64)))))]]) (.tail 0 (List.length b+(1:Nat)))) ⟨[], [((List.length b+(1:Nat)),(1,false))]⟩∧
 (aB Tryz.prog (fun _=> .none) 0 ⟨[], [((List.length b+(1:Nat)),(1,false))]⟩ (.call ⟨(.builtin .append), #[(.tmp 18),(.tmp 25)], #[94,94]⟩) [(18,(.vec 1 (b++ [[TV.val (Value.int IntKind.u8 (IntKind.wrap IntKind.u8 (Int.fdiv n ((2:Int)^min (Int.toNat (IntKind.wrap IntKind.u64 (IntKind.wrap IntKind.i64 ((8:Int)*IntKind.wrap IntKind.i64 ((2:Int)-(1:Int)))))) (IntKind.bits IntKind.u64)))))]]) (.tail 0 (List.length b+(1:Nat))))),(25,(.vec 1 [[(.val (.int .u8 (IntKind.wrap IntKind.u8 (Int.fdiv n ((2:Int)^min (Int.toNat (IntKind.wrap IntKind.u64 (IntKind.wrap IntKind.i64 ((8:Int)*IntKind.wrap IntKind.i64 (IntKind.wrap IntKind.i64 ((2:Int)-(1:Int))-(1:Int)))))) (IntKind.bits IntKind.u64))))))]] .full))] (.vec 1 (b++ [[TV.val (Value.int IntKind.u8 (IntKind.wrap IntKind.u8 (Int.fdiv n ((2:Int)^min (Int.toNat (IntKind.wrap IntKind.u64 (IntKind.wrap IntKind.i64 ((8:Int)*IntKind.wrap IntKind.i64 ((2:Int)-(1:Int)))))) (IntKind.bits IntKind.u64)))))]]++
  [[TV.val (Value.int IntKind.u8 (IntKind.wrap IntKind.u8 (Int.fdiv n ((2:Int)^min (Int.toNat (IntKind.wrap IntKind.u64 (IntKind.wrap IntKind.i64 ((8:Int)*IntKind.wrap IntKind.i64 (IntKind.wrap IntKind.i64 ((2:Int)-(1:Int))-(1:Int)))))) (IntKind.bits IntKind.u64)))))]]) (.tail 0 (List.length b+(1:Nat)+(1:Nat)))) ⟨[], [((List.length b+(1:Nat)+(1:Nat)),(1,false))]⟩∧
 Q (.vec 1 (b++ [[TV.val (Value.int IntKind.u8 (IntKind.wrap IntKind.u8 (Int.fdiv n ((2:Int)^min (Int.toNat (IntKind.wrap IntKind.u64 (IntKind.wrap IntKind.i64 ((8:Int)*IntKind.wrap IntKind.i64 ((2:Int)-(1:Int)))))) (IntKind.bits IntKind.u64)))))]]++
  [[TV.val (Value.int IntKind.u8 (IntKind.wrap IntKind.u8 (Int.fdiv n ((2:Int)^min (Int.toNat (IntKind.wrap IntKind.u64 (IntKind.wrap IntKind.i64 ((8:Int)*IntKind.wrap IntKind.i64 (IntKind.wrap IntKind.i64 ((2:Int)-(1:Int))-(1:Int)))))) (IntKind.bits IntKind.u64)))))]]) (.tail 0 (List.length b+(1:Nat)+(1:Nat)))) ⟨[], [((List.length b+(1:Nat)+(1:Nat)),(1,false))]⟩))):=by kernel_rfl
theorem IK (n:Int) (Q:TV→VT→Prop):aq Tryz.prog ae aR (pN 26 (aA [(999998, .dead,none),(11, .vec 1 [] (.tail 0 0),some fun T=>{T with tails:= [(0,1,false)]})])) 300 aD 0 gE [.val (.slice none 0 0), .val (.int .u64 n), .val (.int .i64 2)] ⟨[], []⟩ Q=
 (aB Tryz.prog (fun _=> .none) 0 ⟨[], []⟩ (.call ⟨(.builtin .append), #[(.tmp 9),(.tmp 10)], #[94,94]⟩) [(9,(.vec 1 [] .full)),(10,(.val (.slice .none 0 0)))] (.vec 1 [] (.tail 0 0)) ⟨[], [(0,(1,false))]⟩∧
 (aB Tryz.prog (fun _=> .none) 0 ⟨[], [(0,(1,false))]⟩ (.call ⟨(.builtin .append), #[(.tmp 18),(.tmp 25)], #[94,94]⟩) [(18,(.vec 1 [] (.tail 0 0))),(25,(.vec 1 [[(.val (.int .u8 (IntKind.wrap IntKind.u8 (Int.fdiv n ((2:Int)^min (Int.toNat (IntKind.wrap IntKind.u64 (IntKind.wrap IntKind.i64 ((8:Int)*IntKind.wrap IntKind.i64 ((2:Int)-(1:Int)))))) (IntKind.bits IntKind.u64))))))]] .full))] (.vec 1 [[(.val (.int .u8 (IntKind.wrap IntKind.u8 (Int.fdiv n ((2:Int)^min (Int.toNat (IntKind.wrap IntKind.u64 (IntKind.wrap IntKind.i64 ((8:Int)*IntKind.wrap IntKind.i64 ((2:Int)-(1:Int)))))) (IntKind.bits IntKind.u64))))))]] (.tail 0 1)) ⟨[], [(1,(1,false))]⟩∧
 (aB Tryz.prog (fun _=> .none) 0 ⟨[], [(1,(1,false))]⟩ (.call ⟨(.builtin .append), #[(.tmp 18),(.tmp 25)], #[94,94]⟩) [(18,(.vec 1 [[(.val (.int .u8 (IntKind.wrap IntKind.u8 (Int.fdiv n ((2:Int)^min (Int.toNat (IntKind.wrap IntKind.u64 (IntKind.wrap IntKind.i64 ((8:Int)*IntKind.wrap IntKind.i64 ((2:Int)-(1:Int)))))) (IntKind.bits IntKind.u64))))))]] (.tail 0 1))),(25,(.vec 1 [[(.val (.int .u8 (IntKind.wrap IntKind.u8 (Int.fdiv n ((2:Int)^min (Int.toNat (IntKind.wrap IntKind.u64 (IntKind.wrap IntKind.i64 ((8:Int)*IntKind.wrap IntKind.i64 (IntKind.wrap IntKind.i64 ((2:Int)-(1:Int))-(1:Int)))))) (IntKind.bits IntKind.u64))))))]] .full))] (.vec 1 [[(.val (.int .u8 (IntKind.wrap IntKind.u8 (Int.fdiv n ((2:Int)^min (Int.toNat (IntKind.wrap IntKind.u64 (IntKind.wrap IntKind.i64 ((8:Int)*IntKind.wrap IntKind.i64 ((2:Int)-(1:Int)))))) (IntKind.bits IntKind.u64))))))], [(.val (.int .u8 (IntKind.wrap IntKind.u8 (Int.fdiv n ((2:Int)^min (Int.toNat (IntKind.wrap IntKind.u64 (IntKind.wrap IntKind.i64 ((8:Int)*IntKind.wrap IntKind.i64 (IntKind.wrap IntKind.i64 ((2:Int)-(1:Int))-(1:Int)))))) (IntKind.bits IntKind.u64))))))]] (.tail 0 2)) ⟨[], [(2,(1,false))]⟩∧
 Q (.vec 1 [[(.val (.int .u8 (IntKind.wrap IntKind.u8 (Int.fdiv n ((2:Int)^min (Int.toNat (IntKind.wrap IntKind.u64 (IntKind.wrap IntKind.i64 ((8:Int)*IntKind.wrap IntKind.i64 ((2:Int)-(1:Int)))))) (IntKind.bits IntKind.u64))))))], [(.val (.int .u8 (IntKind.wrap IntKind.u8 (Int.fdiv n ((2:Int)^min (Int.toNat (IntKind.wrap IntKind.u64 (IntKind.wrap IntKind.i64 ((8:Int)*IntKind.wrap IntKind.i64 (IntKind.wrap IntKind.i64 ((2:Int)-(1:Int))-(1:Int)))))) (IntKind.bits IntKind.u64))))))]] (.tail 0 2)) ⟨[], [(2,(1,false))]⟩))):=by kernel_rfl
theorem IL (b:Bs) (tk:Tok) (n:Int) (Q:TV→VT→Prop):aq Tryz.prog ae aR (pN 26 (aA [(999998, .dead,none),(11, .vec 1 b (.tail 0 b.length),some fun T=>{T with tails:= [(b.length,1,false)]})])) 300 aD 0 gE [.vec 1 b tk, .val (.int .u64 n), .val (.int .i64 4)] ⟨[], []⟩ Q=
 (aB Tryz.prog (fun _=> .none) 0 ⟨[], []⟩ (.call ⟨(.builtin .append), #[(.tmp 9),(.tmp 10)], #[94,94]⟩) [(9,(.vec 1 [] .full)),(10,(.vec 1 (b) (tk)))] (.vec 1 (b) (.tail 0 (List.length b))) ⟨[], [((List.length b),(1,false))]⟩∧
 (aB Tryz.prog (fun _=> .none) 0 ⟨[], [((List.length b),(1,false))]⟩ (.call ⟨(.builtin .append), #[(.tmp 18),(.tmp 25)], #[94,94]⟩) [(18,(.vec 1 (b) (.tail 0 (List.length b)))),(25,(.vec 1 [[(.val (.int .u8 (IntKind.wrap IntKind.u8 (Int.fdiv n ((2:Int)^min (Int.toNat (IntKind.wrap IntKind.u64 (IntKind.wrap IntKind.i64 ((8:Int)*IntKind.wrap IntKind.i64 ((4:Int)-(1:Int)))))) (IntKind.bits IntKind.u64))))))]] .full))] (.vec 1 (b++ [[TV.val (Value.int IntKind.u8 (IntKind.wrap IntKind.u8 (Int.fdiv n ((2:Int)^min (Int.toNat (IntKind.wrap IntKind.u64 (IntKind.wrap IntKind.i64 ((8:Int)*IntKind.wrap IntKind.i64 ((4:Int)-(1:Int)))))) (IntKind.bits IntKind.u64)))))]]) (.tail 0 (List.length b+(1:Nat)))) ⟨[], [((List.length b+(1:Nat)),(1,false))]⟩∧
 (aB Tryz.prog (fun _=> .none) 0 ⟨[], [((List.length b+(1:Nat)),(1,false))]⟩ (.call ⟨(.builtin .append), #[(.tmp 18),(.tmp 25)], #[94,94]⟩) [(18,(.vec 1 (b++ [[TV.val (Value.int IntKind.u8 (IntKind.wrap IntKind.u8 (Int.fdiv n ((2:Int)^min (Int.toNat (IntKind.wrap IntKind.u64 (IntKind.wrap IntKind.i64 ((8:Int)*IntKind.wrap IntKind.i64 ((4:Int)-(1:Int)))))) (IntKind.bits IntKind.u64)))))]]) (.tail 0 (List.length b+(1:Nat))))),(25,(.vec 1 [[(.val (.int .u8 (IntKind.wrap IntKind.u8 (Int.fdiv n ((2:Int)^min (Int.toNat (IntKind.wrap IntKind.u64 (IntKind.wrap IntKind.i64 ((8:Int)*IntKind.wrap IntKind.i64 (IntKind.wrap IntKind.i64 ((4:Int)-(1:Int))-(1:Int)))))) (IntKind.bits IntKind.u64))))))]] .full))] (.vec 1 (b++ [[TV.val (Value.int IntKind.u8 (IntKind.wrap IntKind.u8 (Int.fdiv n ((2:Int)^min (Int.toNat (IntKind.wrap IntKind.u64 (IntKind.wrap IntKind.i64 ((8:Int)*IntKind.wrap IntKind.i64 ((4:Int)-(1:Int)))))) (IntKind.bits IntKind.u64)))))]]++
  [[TV.val (Value.int IntKind.u8 (IntKind.wrap IntKind.u8 (Int.fdiv n ((2:Int)^min (Int.toNat (IntKind.wrap IntKind.u64 (IntKind.wrap IntKind.i64 ((8:Int)*IntKind.wrap IntKind.i64 (IntKind.wrap IntKind.i64 ((4:Int)-(1:Int))-(1:Int)))))) (IntKind.bits IntKind.u64)))))]]) (.tail 0 (List.length b+(1:Nat)+(1:Nat)))) ⟨[], [((List.length b+(1:Nat)+(1:Nat)),(1,false))]⟩∧
 (aB Tryz.prog (fun _=> .none) 0 ⟨[], [((List.length b+(1:Nat)+(1:Nat)),(1,false))]⟩ (.call ⟨(.builtin .append), #[(.tmp 18),(.tmp 25)], #[94,94]⟩) [(18,(.vec 1 (b++ [[TV.val (Value.int IntKind.u8 (IntKind.wrap IntKind.u8 (Int.fdiv n ((2:Int)^min (Int.toNat (IntKind.wrap IntKind.u64 (IntKind.wrap IntKind.i64 ((8:Int)*IntKind.wrap IntKind.i64 ((4:Int)-(1:Int)))))) (IntKind.bits IntKind.u64)))))]]++
  [[TV.val (Value.int IntKind.u8 (IntKind.wrap IntKind.u8 (Int.fdiv n ((2:Int)^min (Int.toNat (IntKind.wrap IntKind.u64 (IntKind.wrap IntKind.i64 ((8:Int)*IntKind.wrap IntKind.i64 (IntKind.wrap IntKind.i64 ((4:Int)-(1:Int))-(1:Int)))))) (IntKind.bits IntKind.u64)))))]]) (.tail 0 (List.length b+(1:Nat)+(1:Nat))))),(25,(.vec 1 [[(.val (.int .u8 (IntKind.wrap IntKind.u8 (Int.fdiv n ((2:Int)^min (Int.toNat (IntKind.wrap IntKind.u64 (IntKind.wrap IntKind.i64 ((8:Int)*IntKind.wrap IntKind.i64 (IntKind.wrap IntKind.i64 (IntKind.wrap IntKind.i64 ((4:Int)-(1:Int))-(1:Int))-(1:Int)))))) (IntKind.bits IntKind.u64))))))]] .full))] (.vec 1 (b++ [[TV.val (Value.int IntKind.u8 (IntKind.wrap IntKind.u8 (Int.fdiv n ((2:Int)^min (Int.toNat (IntKind.wrap IntKind.u64 (IntKind.wrap IntKind.i64 ((8:Int)*IntKind.wrap IntKind.i64 ((4:Int)-(1:Int)))))) (IntKind.bits IntKind.u64)))))]]++
    [[TV.val (Value.int IntKind.u8 (IntKind.wrap IntKind.u8 (Int.fdiv n ((2:Int)^min (Int.toNat (IntKind.wrap IntKind.u64 (IntKind.wrap IntKind.i64 ((8:Int)*IntKind.wrap IntKind.i64 (IntKind.wrap IntKind.i64 ((4:Int)-(1:Int))-(1:Int)))))) (IntKind.bits IntKind.u64)))))]]++
  [[TV.val (Value.int IntKind.u8 (IntKind.wrap IntKind.u8 (Int.fdiv n ((2:Int)^min (Int.toNat (IntKind.wrap IntKind.u64 (IntKind.wrap IntKind.i64 ((8:Int)*IntKind.wrap IntKind.i64 (IntKind.wrap IntKind.i64 (IntKind.wrap IntKind.i64 ((4:Int)-(1:Int))-(1:Int))-(1:Int)))))) (IntKind.bits IntKind.u64)))))]]) (.tail 0 (List.length b+(1:Nat)+(1:Nat)+(1:Nat)))) ⟨[], [((List.length b+(1:Nat)+(1:Nat)+(1:Nat)),(1,false))]⟩∧
 (aB Tryz.prog (fun _=> .none) 0 ⟨[], [((List.length b+(1:Nat)+(1:Nat)+(1:Nat)),(1,false))]⟩ (.call ⟨(.builtin .append), #[(.tmp 18),(.tmp 25)], #[94,94]⟩) [(18,(.vec 1 (b++ [[TV.val (Value.int IntKind.u8 (IntKind.wrap IntKind.u8 (Int.fdiv n ((2:Int)^min (Int.toNat (IntKind.wrap IntKind.u64 (IntKind.wrap IntKind.i64 ((8:Int)*IntKind.wrap IntKind.i64 ((4:Int)-(1:Int)))))) (IntKind.bits IntKind.u64)))))]]++
    [[TV.val (Value.int IntKind.u8 (IntKind.wrap IntKind.u8 (Int.fdiv n ((2:Int)^min (Int.toNat (IntKind.wrap IntKind.u64 (IntKind.wrap IntKind.i64 ((8:Int)*IntKind.wrap IntKind.i64 (IntKind.wrap IntKind.i64 ((4:Int)-(1:Int))-(1:Int)))))) (IntKind.bits IntKind.u64)))))]]++
  [[TV.val (Value.int IntKind.u8 (IntKind.wrap IntKind.u8 (Int.fdiv n ((2:Int)^min (Int.toNat (IntKind.wrap IntKind.u64 (IntKind.wrap IntKind.i64 ((8:Int)*IntKind.wrap IntKind.i64 (IntKind.wrap IntKind.i64 (IntKind.wrap IntKind.i64 ((4:Int)-(1:Int))-(1:Int))-(1:Int)))))) (IntKind.bits IntKind.u64)))))]]) (.tail 0 (List.length b+(1:Nat)+(1:Nat)+(1:Nat))))),(25,(.vec 1 [[(.val (.int .u8 (IntKind.wrap IntKind.u8 (Int.fdiv n ((2:Int)^min (Int.toNat (IntKind.wrap IntKind.u64 (IntKind.wrap IntKind.i64 ((8:Int)*IntKind.wrap IntKind.i64 (IntKind.wrap IntKind.i64 (IntKind.wrap IntKind.i64 (IntKind.wrap IntKind.i64 ((4:Int)-(1:Int))-(1:Int))-(1:Int))-(1:Int)))))) (IntKind.bits IntKind.u64))))))]] .full))] (.vec 1 (b++ [[TV.val (Value.int IntKind.u8 (IntKind.wrap IntKind.u8 (Int.fdiv n ((2:Int)^min (Int.toNat (IntKind.wrap IntKind.u64 (IntKind.wrap IntKind.i64 ((8:Int)*IntKind.wrap IntKind.i64 ((4:Int)-(1:Int)))))) (IntKind.bits IntKind.u64)))))]]++
      [[TV.val (Value.int IntKind.u8 (IntKind.wrap IntKind.u8 (Int.fdiv n ((2:Int)^min (Int.toNat (IntKind.wrap IntKind.u64 (IntKind.wrap IntKind.i64 ((8:Int)*IntKind.wrap IntKind.i64 (IntKind.wrap IntKind.i64 ((4:Int)-(1:Int))-(1:Int)))))) (IntKind.bits IntKind.u64)))))]]++
    [[TV.val (Value.int IntKind.u8 (IntKind.wrap IntKind.u8 (Int.fdiv n ((2:Int)^min (Int.toNat (IntKind.wrap IntKind.u64 (IntKind.wrap IntKind.i64 ((8:Int)*IntKind.wrap IntKind.i64 (IntKind.wrap IntKind.i64 (IntKind.wrap IntKind.i64 ((4:Int)-(1:Int))-(1:Int))-(1:Int)))))) (IntKind.bits IntKind.u64)))))]]++
  [[TV.val (Value.int IntKind.u8 (IntKind.wrap IntKind.u8 (Int.fdiv n ((2:Int)^min (Int.toNat (IntKind.wrap IntKind.u64 (IntKind.wrap IntKind.i64 ((8:Int)*IntKind.wrap IntKind.i64 (IntKind.wrap IntKind.i64 (IntKind.wrap IntKind.i64 (IntKind.wrap IntKind.i64 ((4:Int)-(1:Int))-(1:Int))-(1:Int))-(1:Int)))))) (IntKind.bits IntKind.u64)))))]]) (.tail 0 (List.length b+(1:Nat)+(1:Nat)+(1:Nat)+(1:Nat)))) ⟨[], [((List.length b+(1:Nat)+(1:Nat)+(1:Nat)+(1:Nat)),(1,false))]⟩∧
 Q (.vec 1 (b++ [[TV.val (Value.int IntKind.u8 (IntKind.wrap IntKind.u8 (Int.fdiv n ((2:Int)^min (Int.toNat (IntKind.wrap IntKind.u64 (IntKind.wrap IntKind.i64 ((8:Int)*IntKind.wrap IntKind.i64 ((4:Int)-(1:Int)))))) (IntKind.bits IntKind.u64)))))]]++
      [[TV.val (Value.int IntKind.u8 (IntKind.wrap IntKind.u8 (Int.fdiv n ((2:Int)^min (Int.toNat (IntKind.wrap IntKind.u64 (IntKind.wrap IntKind.i64 ((8:Int)*IntKind.wrap IntKind.i64 (IntKind.wrap IntKind.i64 ((4:Int)-(1:Int))-(1:Int)))))) (IntKind.bits IntKind.u64)))))]]++
    [[TV.val (Value.int IntKind.u8 (IntKind.wrap IntKind.u8 (Int.fdiv n ((2:Int)^min (Int.toNat (IntKind.wrap IntKind.u64 (IntKind.wrap IntKind.i64 ((8:Int)*IntKind.wrap IntKind.i64 (IntKind.wrap IntKind.i64 (IntKind.wrap IntKind.i64 ((4:Int)-(1:Int))-(1:Int))-(1:Int)))))) (IntKind.bits IntKind.u64)))))]]++
  [[TV.val (Value.int IntKind.u8 (IntKind.wrap IntKind.u8 (Int.fdiv n ((2:Int)^min (Int.toNat (IntKind.wrap IntKind.u64 (IntKind.wrap IntKind.i64 ((8:Int)*IntKind.wrap IntKind.i64 (IntKind.wrap IntKind.i64 (IntKind.wrap IntKind.i64 (IntKind.wrap IntKind.i64 ((4:Int)-(1:Int))-(1:Int))-(1:Int))-(1:Int)))))) (IntKind.bits IntKind.u64)))))]]) (.tail 0 (List.length b+(1:Nat)+(1:Nat)+(1:Nat)+(1:Nat)))) ⟨[], [((List.length b+(1:Nat)+(1:Nat)+(1:Nat)+(1:Nat)),(1,false))]⟩))))):=by kernel_rfl
theorem IM (n:Int) (Q:TV→VT→Prop):aq Tryz.prog ae aR (pN 26 (aA [(999998, .dead,none),(11, .vec 1 [] (.tail 0 0),some fun T=>{T with tails:= [(0,1,false)]})])) 300 aD 0 gE [.val (.slice none 0 0), .val (.int .u64 n), .val (.int .i64 4)] ⟨[], []⟩ Q=
 (aB Tryz.prog (fun _=> .none) 0 ⟨[], []⟩ (.call ⟨(.builtin .append), #[(.tmp 9),(.tmp 10)], #[94,94]⟩) [(9,(.vec 1 [] .full)),(10,(.val (.slice .none 0 0)))] (.vec 1 [] (.tail 0 0)) ⟨[], [(0,(1,false))]⟩∧
 (aB Tryz.prog (fun _=> .none) 0 ⟨[], [(0,(1,false))]⟩ (.call ⟨(.builtin .append), #[(.tmp 18),(.tmp 25)], #[94,94]⟩) [(18,(.vec 1 [] (.tail 0 0))),(25,(.vec 1 [[(.val (.int .u8 (IntKind.wrap IntKind.u8 (Int.fdiv n ((2:Int)^min (Int.toNat (IntKind.wrap IntKind.u64 (IntKind.wrap IntKind.i64 ((8:Int)*IntKind.wrap IntKind.i64 ((4:Int)-(1:Int)))))) (IntKind.bits IntKind.u64))))))]] .full))] (.vec 1 [[(.val (.int .u8 (IntKind.wrap IntKind.u8 (Int.fdiv n ((2:Int)^min (Int.toNat (IntKind.wrap IntKind.u64 (IntKind.wrap IntKind.i64 ((8:Int)*IntKind.wrap IntKind.i64 ((4:Int)-(1:Int)))))) (IntKind.bits IntKind.u64))))))]] (.tail 0 1)) ⟨[], [(1,(1,false))]⟩∧
 (aB Tryz.prog (fun _=> .none) 0 ⟨[], [(1,(1,false))]⟩ (.call ⟨(.builtin .append), #[(.tmp 18),(.tmp 25)], #[94,94]⟩) [(18,(.vec 1 [[(.val (.int .u8 (IntKind.wrap IntKind.u8 (Int.fdiv n ((2:Int)^min (Int.toNat (IntKind.wrap IntKind.u64 (IntKind.wrap IntKind.i64 ((8:Int)*IntKind.wrap IntKind.i64 ((4:Int)-(1:Int)))))) (IntKind.bits IntKind.u64))))))]] (.tail 0 1))),(25,(.vec 1 [[(.val (.int .u8 (IntKind.wrap IntKind.u8 (Int.fdiv n ((2:Int)^min (Int.toNat (IntKind.wrap IntKind.u64 (IntKind.wrap IntKind.i64 ((8:Int)*IntKind.wrap IntKind.i64 (IntKind.wrap IntKind.i64 ((4:Int)-(1:Int))-(1:Int)))))) (IntKind.bits IntKind.u64))))))]] .full))] (.vec 1 [[(.val (.int .u8 (IntKind.wrap IntKind.u8 (Int.fdiv n ((2:Int)^min (Int.toNat (IntKind.wrap IntKind.u64 (IntKind.wrap IntKind.i64 ((8:Int)*IntKind.wrap IntKind.i64 ((4:Int)-(1:Int)))))) (IntKind.bits IntKind.u64))))))], [(.val (.int .u8 (IntKind.wrap IntKind.u8 (Int.fdiv n ((2:Int)^min (Int.toNat (IntKind.wrap IntKind.u64 (IntKind.wrap IntKind.i64 ((8:Int)*IntKind.wrap IntKind.i64 (IntKind.wrap IntKind.i64 ((4:Int)-(1:Int))-(1:Int)))))) (IntKind.bits IntKind.u64))))))]] (.tail 0 2)) ⟨[], [(2,(1,false))]⟩∧
 (aB Tryz.prog (fun _=> .none) 0 ⟨[], [(2,(1,false))]⟩ (.call ⟨(.builtin .append), #[(.tmp 18),(.tmp 25)], #[94,94]⟩) [(18,(.vec 1 [[(.val (.int .u8 (IntKind.wrap IntKind.u8 (Int.fdiv n ((2:Int)^min (Int.toNat (IntKind.wrap IntKind.u64 (IntKind.wrap IntKind.i64 ((8:Int)*IntKind.wrap IntKind.i64 ((4:Int)-(1:Int)))))) (IntKind.bits IntKind.u64))))))], [(.val (.int .u8 (IntKind.wrap IntKind.u8 (Int.fdiv n ((2:Int)^min (Int.toNat (IntKind.wrap IntKind.u64 (IntKind.wrap IntKind.i64 ((8:Int)*IntKind.wrap IntKind.i64 (IntKind.wrap IntKind.i64 ((4:Int)-(1:Int))-(1:Int)))))) (IntKind.bits IntKind.u64))))))]] (.tail 0 2))),(25,(.vec 1 [[(.val (.int .u8 (IntKind.wrap IntKind.u8 (Int.fdiv n ((2:Int)^min (Int.toNat (IntKind.wrap IntKind.u64 (IntKind.wrap IntKind.i64 ((8:Int)*IntKind.wrap IntKind.i64 (IntKind.wrap IntKind.i64 (IntKind.wrap IntKind.i64 ((4:Int)-(1:Int))-(1:Int))-(1:Int)))))) (IntKind.bits IntKind.u64))))))]] .full))] (.vec 1 [[(.val (.int .u8 (IntKind.wrap IntKind.u8 (Int.fdiv n ((2:Int)^min (Int.toNat (IntKind.wrap IntKind.u64 (IntKind.wrap IntKind.i64 ((8:Int)*IntKind.wrap IntKind.i64 ((4:Int)-(1:Int)))))) (IntKind.bits IntKind.u64))))))], [(.val (.int .u8 (IntKind.wrap IntKind.u8 (Int.fdiv n ((2:Int)^min (Int.toNat (IntKind.wrap IntKind.u64 (IntKind.wrap IntKind.i64 ((8:Int)*IntKind.wrap IntKind.i64 (IntKind.wrap IntKind.i64 ((4:Int)-(1:Int))-(1:Int)))))) (IntKind.bits IntKind.u64))))))], [(.val (.int .u8 (IntKind.wrap IntKind.u8 (Int.fdiv n ((2:Int)^min (Int.toNat (IntKind.wrap IntKind.u64 (IntKind.wrap IntKind.i64 ((8:Int)*IntKind.wrap IntKind.i64 (IntKind.wrap IntKind.i64 (IntKind.wrap IntKind.i64 ((4:Int)-(1:Int))-(1:Int))-(1:Int)))))) (IntKind.bits IntKind.u64))))))]] (.tail 0 3)) ⟨[], [(3,(1,false))]⟩∧
 (aB Tryz.prog (fun _=> .none) 0 ⟨[], [(3,(1,false))]⟩ (.call ⟨(.builtin .append), #[(.tmp 18),(.tmp 25)], #[94,94]⟩) [(18,(.vec 1 [[(.val (.int .u8 (IntKind.wrap IntKind.u8 (Int.fdiv n ((2:Int)^min (Int.toNat (IntKind.wrap IntKind.u64 (IntKind.wrap IntKind.i64 ((8:Int)*IntKind.wrap IntKind.i64 ((4:Int)-(1:Int)))))) (IntKind.bits IntKind.u64))))))], [(.val (.int .u8 (IntKind.wrap IntKind.u8 (Int.fdiv n ((2:Int)^min (Int.toNat (IntKind.wrap IntKind.u64 (IntKind.wrap IntKind.i64 ((8:Int)*IntKind.wrap IntKind.i64 (IntKind.wrap IntKind.i64 ((4:Int)-(1:Int))-(1:Int)))))) (IntKind.bits IntKind.u64))))))], [(.val (.int .u8 (IntKind.wrap IntKind.u8 (Int.fdiv n ((2:Int)^min (Int.toNat (IntKind.wrap IntKind.u64 (IntKind.wrap IntKind.i64 ((8:Int)*IntKind.wrap IntKind.i64 (IntKind.wrap IntKind.i64 (IntKind.wrap IntKind.i64 ((4:Int)-(1:Int))-(1:Int))-(1:Int)))))) (IntKind.bits IntKind.u64))))))]] (.tail 0 3))),(25,(.vec 1 [[(.val (.int .u8 (IntKind.wrap IntKind.u8 (Int.fdiv n ((2:Int)^min (Int.toNat (IntKind.wrap IntKind.u64 (IntKind.wrap IntKind.i64 ((8:Int)*IntKind.wrap IntKind.i64 (IntKind.wrap IntKind.i64 (IntKind.wrap IntKind.i64 (IntKind.wrap IntKind.i64 ((4:Int)-(1:Int))-(1:Int))-(1:Int))-(1:Int)))))) (IntKind.bits IntKind.u64))))))]] .full))] (.vec 1 [[(.val (.int .u8 (IntKind.wrap IntKind.u8 (Int.fdiv n ((2:Int)^min (Int.toNat (IntKind.wrap IntKind.u64 (IntKind.wrap IntKind.i64 ((8:Int)*IntKind.wrap IntKind.i64 ((4:Int)-(1:Int)))))) (IntKind.bits IntKind.u64))))))], [(.val (.int .u8 (IntKind.wrap IntKind.u8 (Int.fdiv n ((2:Int)^min (Int.toNat (IntKind.wrap IntKind.u64 (IntKind.wrap IntKind.i64 ((8:Int)*IntKind.wrap IntKind.i64 (IntKind.wrap IntKind.i64 ((4:Int)-(1:Int))-(1:Int)))))) (IntKind.bits IntKind.u64))))))], [(.val (.int .u8 (IntKind.wrap IntKind.u8 (Int.fdiv n ((2:Int)^min (Int.toNat (IntKind.wrap IntKind.u64 (IntKind.wrap IntKind.i64 ((8:Int)*IntKind.wrap IntKind.i64 (IntKind.wrap IntKind.i64 (IntKind.wrap IntKind.i64 ((4:Int)-(1:Int))-(1:Int))-(1:Int)))))) (IntKind.bits IntKind.u64))))))], [(.val (.int .u8 (IntKind.wrap IntKind.u8 (Int.fdiv n ((2:Int)^min (Int.toNat (IntKind.wrap IntKind.u64 (IntKind.wrap IntKind.i64 ((8:Int)*IntKind.wrap IntKind.i64 (IntKind.wrap IntKind.i64 (IntKind.wrap IntKind.i64 (IntKind.wrap IntKind.i64 ((4:Int)-(1:Int))-(1:Int))-(1:Int))-(1:Int)))))) (IntKind.bits IntKind.u64))))))]] (.tail 0 4)) ⟨[], [(4,(1,false))]⟩∧
 Q (.vec 1 [[(.val (.int .u8 (IntKind.wrap IntKind.u8 (Int.fdiv n ((2:Int)^min (Int.toNat (IntKind.wrap IntKind.u64 (IntKind.wrap IntKind.i64 ((8:Int)*IntKind.wrap IntKind.i64 ((4:Int)-(1:Int)))))) (IntKind.bits IntKind.u64))))))], [(.val (.int .u8 (IntKind.wrap IntKind.u8 (Int.fdiv n ((2:Int)^min (Int.toNat (IntKind.wrap IntKind.u64 (IntKind.wrap IntKind.i64 ((8:Int)*IntKind.wrap IntKind.i64 (IntKind.wrap IntKind.i64 ((4:Int)-(1:Int))-(1:Int)))))) (IntKind.bits IntKind.u64))))))], [(.val (.int .u8 (IntKind.wrap IntKind.u8 (Int.fdiv n ((2:Int)^min (Int.toNat (IntKind.wrap IntKind.u64 (IntKind.wrap IntKind.i64 ((8:Int)*IntKind.wrap IntKind.i64 (IntKind.wrap IntKind.i64 (IntKind.wrap IntKind.i64 ((4:Int)-(1:Int))-(1:Int))-(1:Int)))))) (IntKind.bits IntKind.u64))))))], [(.val (.int .u8 (IntKind.wrap IntKind.u8 (Int.fdiv n ((2:Int)^min (Int.toNat (IntKind.wrap IntKind.u64 (IntKind.wrap IntKind.i64 ((8:Int)*IntKind.wrap IntKind.i64 (IntKind.wrap IntKind.i64 (IntKind.wrap IntKind.i64 (IntKind.wrap IntKind.i64 ((4:Int)-(1:Int))-(1:Int))-(1:Int))-(1:Int)))))) (IntKind.bits IntKind.u64))))))]] (.tail 0 4)) ⟨[], [(4,(1,false))]⟩))))):=by kernel_rfl
theorem FY (t:Int) (v b3 b4:Bs) (k4:Nat) (tl4:eo) (Q:TV→VT→Prop):aq Tryz.prog ae aR (aA [(999998, .dead,none),(32, .dead,none),(38, .vec 1 b3 (.tail 0 1),some fun T=>{T with tails:= [(1,1,false)]}),(41, .vec 1 b4 (.tail 0 k4),some fun T=>{T with tails:=tl4})]) 300 aD 0 tY [.agg [.val (.int .i64 64), .val (.int .i64 t), .vec 1 v .none]] ⟨[], []⟩ Q=
 (bif decide ((↑(List.length v):Int)>(255:Int))
 then (ax Tryz.prog (fun _=> .none) (.slice 94 (.tmp 31) .none (.some (.const (.int .i64 255))) .none) [(31,(.vec 1 (v) .none))] .dead∧
 False)
 else (aB Tryz.prog (fun _=> .none) 0 ⟨[(.cells [(.val (.int .i64 64)),(.val (.int .i64 (t))),(.vec 1 (v) .none)])], []⟩ (.call ⟨(.builtin .append), #[(.tmp 33),(.tmp 37)], #[94,94]⟩) [(33,(.vec 1 [[(.val (.int .u8 64))], [(.val (.int .u8 (IntKind.wrap IntKind.u8 t)))]] .full)),(37,(.vec 1 [[(.val (.int .u8 (IntKind.wrap IntKind.u8 (↑(List.length v):Int))))]] .full))] (.vec 1 (b3) (.tail 0 1)) ⟨[(.cells [(.val (.int .i64 64)),(.val (.int .i64 (t))),(.vec 1 (v) .none)])], [(1,(1,false))]⟩∧
 (aB Tryz.prog (fun _=> .none) 0 ⟨[(.cells [(.val (.int .i64 64)),(.val (.int .i64 (t))),(.vec 1 (v) .none)])], [(1,(1,false))]⟩ (.call ⟨(.builtin .append), #[(.tmp 39),(.tmp 40)], #[94,94]⟩) [(39,(.vec 1 (b3) (.tail 0 1))),(40,(.vec 1 (v) .none))] (.vec 1 (b4) (.tail 0 (k4))) ⟨[(.cells [(.val (.int .i64 64)),(.val (.int .i64 (t))),(.vec 1 (v) .none)])],(tl4)⟩∧
 Q (.vec 1 (b4) (.tail 0 (k4))) ⟨[(.cells [(.val (.int .i64 64)),(.val (.int .i64 (t))),(.vec 1 (v) .none)])],(tl4)⟩))):=by kernel_rfl
theorem Ec (t:Int) (v b3 b4:Bs) (k4:Nat) (tl4:eo) (Q:TV→VT→Prop):aq Tryz.prog ae aR (aA [(999998, .dead,none),(32, .dead,none),(38, .vec 1 b3 (.tail 0 1),some fun T=>{T with tails:= [(1,1,false)]}),(41, .vec 1 b4 (.tail 0 k4),some fun T=>{T with tails:=tl4})]) 300 aD 0 tY [.agg [.val (.int .i64 128), .val (.int .i64 t), .vec 1 v .none]] ⟨[], []⟩ Q=
 (bif decide ((↑(List.length v):Int)>(255:Int))
 then (ax Tryz.prog (fun _=> .none) (.slice 94 (.tmp 31) .none (.some (.const (.int .i64 255))) .none) [(31,(.vec 1 (v) .none))] .dead∧
 False)
 else (aB Tryz.prog (fun _=> .none) 0 ⟨[(.cells [(.val (.int .i64 128)),(.val (.int .i64 (t))),(.vec 1 (v) .none)])], []⟩ (.call ⟨(.builtin .append), #[(.tmp 33),(.tmp 37)], #[94,94]⟩) [(33,(.vec 1 [[(.val (.int .u8 128))], [(.val (.int .u8 (IntKind.wrap IntKind.u8 t)))]] .full)),(37,(.vec 1 [[(.val (.int .u8 (IntKind.wrap IntKind.u8 (↑(List.length v):Int))))]] .full))] (.vec 1 (b3) (.tail 0 1)) ⟨[(.cells [(.val (.int .i64 128)),(.val (.int .i64 (t))),(.vec 1 (v) .none)])], [(1,(1,false))]⟩∧
 (aB Tryz.prog (fun _=> .none) 0 ⟨[(.cells [(.val (.int .i64 128)),(.val (.int .i64 (t))),(.vec 1 (v) .none)])], [(1,(1,false))]⟩ (.call ⟨(.builtin .append), #[(.tmp 39),(.tmp 40)], #[94,94]⟩) [(39,(.vec 1 (b3) (.tail 0 1))),(40,(.vec 1 (v) .none))] (.vec 1 (b4) (.tail 0 (k4))) ⟨[(.cells [(.val (.int .i64 128)),(.val (.int .i64 (t))),(.vec 1 (v) .none)])],(tl4)⟩∧
 Q (.vec 1 (b4) (.tail 0 (k4))) ⟨[(.cells [(.val (.int .i64 128)),(.val (.int .i64 (t))),(.vec 1 (v) .none)])],(tl4)⟩))):=by kernel_rfl
theorem Mh (L:Bs) (Q:TV→VT→Prop):aq Tryz.prog ae aR (aA [(999998, .dead,none)]) 300 (Ol L (am Tryz.prog kJ 0)) 0 kJ [.vec 3 L .none] ⟨[], []⟩ Q=
 ((am Tryz.prog kJ (0:Nat)=am Tryz.prog kJ (0:Nat))∧
 (((@Eq (Option Nat) .none .none)∧
 ((@Eq (Nat) 0 0)∧
 ((@Eq (List Nat) [] [])∧
 (((@Eq (Option TV) (.some (.val (.slice .none 0 0))) (.some (.val (.slice .none 0 0))))∧
 True)∧
 ((@Eq (VT) ⟨[], [(0,(1,true))]⟩ ⟨[], [(0,(1,true))]⟩)∧
 ((@Eq (Bool) true true)∧
 (@Eq (List TV) [(.vec 1 [] (.tail 0 0)),(.vec 3 (L) .none),(.val (.int .i64 ((↑(List.length L):Int)))),(.val (.int .i64 0))] [(.vec 1 [] (.tail 0 0)),(.vec 3 (L) .none),(.val (.int .i64 ((↑(List.length L):Int)))),(.val (.int .i64 0))])))))))∧
 (∀qo:Bs,(ik (L) (qo)→Q (.vec 1 (qo) (.tail 0 (List.length qo))) ⟨[], [((List.length qo),(1,true))]⟩)))):=by kernel_rfl
theorem zB (L o v:Bs) (f t:Int) (w:Bs→Bs) (t2:Bs→eo) (j:Nat) (Q:Exit→List TV→VT→List Nat→Nat→Prop):vx Tryz.prog ae (aw [(tY,BL)]) (jU 15 (aA [(999998, .dead,none),(10, .elt [.val (.int .i64 f), .val (.int .i64 t), .vec 1 v .none],none)])) 300 aD none 0 (bd Tryz.prog kJ 0) (aj 18 cR (lT L o j)) (lF o.length) [] (bA cR Q)=
 (bif decide ((↑j:Int)<(↑(List.length L):Int))
 then (ax Tryz.prog (fun _=> .none) (.indexAddr 135 (.tmp 6) (.tmp 8)) [(6,(.vec 3 (L) .none)),(8,(.val (.int .i64 ((↑j:Int)))))] (.elt [(.val (.int .i64 (f))),(.val (.int .i64 (t))),(.vec 1 (v) .none)])∧
 (GI [(.val (.int .i64 (f))),(.val (.int .i64 (t))),(.vec 1 (v) .none)]∧
 (∀qq:Bs,(vE [(.val (.int .i64 (f))),(.val (.int .i64 (t))),(.vec 1 (v) .none)] (qq)→(aB Tryz.prog (fun _=> .none) 0 ⟨[(.cells [(.val (.int .i64 (f))),(.val (.int .i64 (t))),(.vec 1 (v) .none)])], [((List.length o),(1,true))]⟩ (.call ⟨(.builtin .append), #[(.tmp 12),(.tmp 14)], #[94,94]⟩) [(12,(.vec 1 (o) (.tail 0 (List.length o)))),(14,(.vec 1 (qq) .none))] (.vec 1 (o++qq) (.tail 0 (List.length (o++qq)))) ⟨[(.cells [(.val (.int .i64 (f))),(.val (.int .i64 (t))),(.vec 1 (v) .none)])], [((List.length (o++qq)),(1,true))]⟩∧
 Q .normal [(.vec 1 (o++qq) (.tail 0 (List.length (o++qq)))),(.vec 3 (L) .none),(.val (.int .i64 ((↑(List.length L):Int)))),(.val (.int .i64 (IntKind.wrap IntKind.i64 ((↑j:Int)+(1:Int)))))] ⟨[(.cells [(.val (.int .i64 (f))),(.val (.int .i64 (t))),(.vec 1 (v) .none)])], [((List.length (o++qq)),(1,true))]⟩ [] 18)))))
 else Q (.exit 0) [(.vec 1 (o) (.tail 0 (List.length o))),(.vec 3 (L) .none),(.val (.int .i64 ((↑(List.length L):Int)))),(.val (.int .i64 ((↑j:Int))))] ⟨[], [((List.length o),(1,true))]⟩ [] 18):=by kernel_rfl
theorem Mi (L:Bs) (Q:TV→VT→Prop):aq Tryz.prog ae aR (aA [(999998, .dead,none)]) 300 (Om L (am Tryz.prog kM 0)) 0 kM [.vec 2 L .none] ⟨[], []⟩ Q=
 ((am Tryz.prog kM (0:Nat)=am Tryz.prog kM (0:Nat))∧
 (((@Eq (Option Nat) .none .none)∧
 ((@Eq (Nat) 0 0)∧
 ((@Eq (List Nat) [] [])∧
 (((@Eq (Option TV) (.some (.val (.slice .none 0 0))) (.some (.val (.slice .none 0 0))))∧
 True)∧
 ((@Eq (VT) ⟨[], [(0,(1,true))]⟩ ⟨[], [(0,(1,true))]⟩)∧
 ((@Eq (Bool) true true)∧
 (@Eq (List TV) [(.vec 1 [] (.tail 0 0)),(.vec 2 (L) .none),(.val (.int .i64 ((↑(List.length L):Int)))),(.val (.int .i64 0))] [(.vec 1 [] (.tail 0 0)),(.vec 2 (L) .none),(.val (.int .i64 ((↑(List.length L):Int)))),(.val (.int .i64 0))])))))))∧
 (∀qo:Bs,(jE (L) (qo)→Q (.vec 1 (qo) (.tail 0 (List.length qo))) ⟨[], [((List.length qo),(1,true))]⟩)))):=by kernel_rfl
theorem zC (L o:Bs) (a n:Int) (j:Nat) (Q:Exit→List TV→VT→List Nat→Nat→Prop):vx Tryz.prog ae (aw [(kL,BO)]) (jU 15 (aA [(999998, .dead,none),(10, .elt (cj (a,n)),none)])) 300 aD none 0 (bd Tryz.prog kM 0) (aj 18 cR (lU L o j)) (lF o.length) [] (bA cR Q)=
 (bif decide ((↑j:Int)<(↑(List.length L):Int))
 then (ax Tryz.prog (fun _=> .none) (.indexAddr 32 (.tmp 6) (.tmp 8)) [(6,(.vec 2 (L) .none)),(8,(.val (.int .i64 ((↑j:Int)))))] (.elt [(.val (.int .u32 (Prod.fst (a,n)))),(.val (.int .i64 (Prod.snd (a,n))))])∧
 (Bw (Prod.fst (a,n)) (Prod.snd (a,n))∧
 (∀qq:Bs,(vH (qq)→(aB Tryz.prog (fun _=> .none) 0 ⟨[(.cells [(.val (.int .u32 (Prod.fst (a,n)))),(.val (.int .i64 (Prod.snd (a,n))))])], [((List.length o),(1,true))]⟩ (.call ⟨(.builtin .append), #[(.tmp 12),(.tmp 14)], #[94,94]⟩) [(12,(.vec 1 (o) (.tail 0 (List.length o)))),(14,(.vec 1 (qq) .none))] (.vec 1 (o++qq) (.tail 0 (List.length (o++qq)))) ⟨[(.cells [(.val (.int .u32 (Prod.fst (a,n)))),(.val (.int .i64 (Prod.snd (a,n))))])], [((List.length (o++qq)),(1,true))]⟩∧
 Q .normal [(.vec 1 (o++qq) (.tail 0 (List.length (o++qq)))),(.vec 2 (L) .none),(.val (.int .i64 ((↑(List.length L):Int)))),(.val (.int .i64 (IntKind.wrap IntKind.i64 ((↑j:Int)+(1:Int)))))] ⟨[(.cells [(.val (.int .u32 (Prod.fst (a,n)))),(.val (.int .i64 (Prod.snd (a,n))))])], [((List.length (o++qq)),(1,true))]⟩ [] 18)))))
 else Q (.exit 0) [(.vec 1 (o) (.tail 0 (List.length o))),(.vec 2 (L) .none),(.val (.int .i64 ((↑(List.length L):Int)))),(.val (.int .i64 ((↑j:Int))))] ⟨[], [((List.length o),(1,true))]⟩ [] 18):=by kernel_rfl
theorem IN (a n:Int) (Q:TV→VT→Prop):aq Tryz.prog ae (aw [(np,o5)]) (aA [(999998, .dead,none),(16, .val (.int .i64 0),none)]) 300 aD 0 kL [.agg [.val (.int .u32 a), .val (.int .i64 n)]] ⟨[], []⟩ Q=
 (f9 (n)∧
 (ax Tryz.prog (fun _=> .none) (.binOp .quo 3 (.tmp 15) (.const (.int .i64 8)) 3) [(15,(.val (.int .i64 (IntKind.wrap IntKind.i64 (n+(7:Int))))))] (.val (.int .i64 0))∧
 Q (.vec 1 [[(.val (.int .u8 (IntKind.wrap IntKind.u8 n)))]] .full) ⟨[(.cells [(.val (.int .u32 (a))),(.val (.int .i64 (n)))]),(.cells [(.val (.int .u32 (je a n))),(.val (.int .i64 (n)))])], []⟩)):=by kernel_rfl
theorem IP (a n:Int) (Q:TV→VT→Prop):aq Tryz.prog ae (aw [(np,o5)]) (aA [(999998, .dead,none),(16, .val (.int .i64 1),none)]) 300 aD 0 kL [.agg [.val (.int .u32 a), .val (.int .i64 n)]] ⟨[], []⟩ Q=
 (f9 (n)∧
 (ax Tryz.prog (fun _=> .none) (.binOp .quo 3 (.tmp 15) (.const (.int .i64 8)) 3) [(15,(.val (.int .i64 (IntKind.wrap IntKind.i64 (n+(7:Int))))))] (.val (.int .i64 1))∧
 (ax Tryz.prog (fun _=> .none) (.binOp .quo 3 (.tmp 15) (.const (.int .i64 8)) 3) [(15,(.val (.int .i64 (IntKind.wrap IntKind.i64 (n+(7:Int))))))] (.val (.int .i64 1))∧
 Q (.row 1 2 0 2) ⟨[(.cells [(.val (.int .u32 (a))),(.val (.int .i64 (n)))]),(.cells [(.val (.int .u32 (je a n))),(.val (.int .i64 (n)))]),(.row [(.val (.int .u8 (IntKind.wrap IntKind.u8 n))),(.val (.int .u8 (IntKind.wrap IntKind.u8 (Int.fdiv (je a n) ((2:Int)^min (Int.toNat (IntKind.wrap IntKind.u64 (IntKind.wrap IntKind.i64 ((24:Int)-IntKind.wrap IntKind.i64 ((8:Int)*(0:Int)))))) (IntKind.bits IntKind.u32))))))])], []⟩))):=by kernel_rfl
theorem IQ (a n:Int) (Q:TV→VT→Prop):aq Tryz.prog ae (aw [(np,o5)]) (aA [(999998, .dead,none),(16, .val (.int .i64 2),none)]) 300 aD 0 kL [.agg [.val (.int .u32 a), .val (.int .i64 n)]] ⟨[], []⟩ Q=
 (f9 (n)∧
 (ax Tryz.prog (fun _=> .none) (.binOp .quo 3 (.tmp 15) (.const (.int .i64 8)) 3) [(15,(.val (.int .i64 (IntKind.wrap IntKind.i64 (n+(7:Int))))))] (.val (.int .i64 2))∧
 (ax Tryz.prog (fun _=> .none) (.binOp .quo 3 (.tmp 15) (.const (.int .i64 8)) 3) [(15,(.val (.int .i64 (IntKind.wrap IntKind.i64 (n+(7:Int))))))] (.val (.int .i64 2))∧
 (ax Tryz.prog (fun _=> .none) (.binOp .quo 3 (.tmp 15) (.const (.int .i64 8)) 3) [(15,(.val (.int .i64 (IntKind.wrap IntKind.i64 (n+(7:Int))))))] (.val (.int .i64 2))∧
 Q (.row 1 3 0 3) ⟨[(.cells [(.val (.int .u32 (a))),(.val (.int .i64 (n)))]),(.cells [(.val (.int .u32 (je a n))),(.val (.int .i64 (n)))]), .gone,(.row [(.val (.int .u8 (IntKind.wrap IntKind.u8 n))),(.val (.int .u8 (IntKind.wrap IntKind.u8 (Int.fdiv (je a n) ((2:Int)^min (Int.toNat (IntKind.wrap IntKind.u64 (IntKind.wrap IntKind.i64 ((24:Int)-IntKind.wrap IntKind.i64 ((8:Int)*(0:Int)))))) (IntKind.bits IntKind.u32)))))),(.val (.int .u8 (IntKind.wrap IntKind.u8 (Int.fdiv (je a n) ((2:Int)^min (Int.toNat (IntKind.wrap IntKind.u64 (IntKind.wrap IntKind.i64 ((24:Int)-IntKind.wrap IntKind.i64 ((8:Int)*IntKind.wrap IntKind.i64 ((0:Int)+(1:Int))))))) (IntKind.bits IntKind.u32))))))])], []⟩)))):=by kernel_rfl
theorem IR (a n:Int) (Q:TV→VT→Prop):aq Tryz.prog ae (aw [(np,o5)]) (aA [(999998, .dead,none),(16, .val (.int .i64 3),none)]) 300 aD 0 kL [.agg [.val (.int .u32 a), .val (.int .i64 n)]] ⟨[], []⟩ Q=
 (f9 (n)∧
 (ax Tryz.prog (fun _=> .none) (.binOp .quo 3 (.tmp 15) (.const (.int .i64 8)) 3) [(15,(.val (.int .i64 (IntKind.wrap IntKind.i64 (n+(7:Int))))))] (.val (.int .i64 3))∧
 (ax Tryz.prog (fun _=> .none) (.binOp .quo 3 (.tmp 15) (.const (.int .i64 8)) 3) [(15,(.val (.int .i64 (IntKind.wrap IntKind.i64 (n+(7:Int))))))] (.val (.int .i64 3))∧
 (ax Tryz.prog (fun _=> .none) (.binOp .quo 3 (.tmp 15) (.const (.int .i64 8)) 3) [(15,(.val (.int .i64 (IntKind.wrap IntKind.i64 (n+(7:Int))))))] (.val (.int .i64 3))∧
 (ax Tryz.prog (fun _=> .none) (.binOp .quo 3 (.tmp 15) (.const (.int .i64 8)) 3) [(15,(.val (.int .i64 (IntKind.wrap IntKind.i64 (n+(7:Int))))))] (.val (.int .i64 3))∧
 Q (.row 1 4 0 4) ⟨[(.cells [(.val (.int .u32 (a))),(.val (.int .i64 (n)))]),(.cells [(.val (.int .u32 (je a n))),(.val (.int .i64 (n)))]), .gone, .gone,(.row [(.val (.int .u8 (IntKind.wrap IntKind.u8 n))),(.val (.int .u8 (IntKind.wrap IntKind.u8 (Int.fdiv (je a n) ((2:Int)^min (Int.toNat (IntKind.wrap IntKind.u64 (IntKind.wrap IntKind.i64 ((24:Int)-IntKind.wrap IntKind.i64 ((8:Int)*(0:Int)))))) (IntKind.bits IntKind.u32)))))),(.val (.int .u8 (IntKind.wrap IntKind.u8 (Int.fdiv (je a n) ((2:Int)^min (Int.toNat (IntKind.wrap IntKind.u64 (IntKind.wrap IntKind.i64 ((24:Int)-IntKind.wrap IntKind.i64 ((8:Int)*IntKind.wrap IntKind.i64 ((0:Int)+(1:Int))))))) (IntKind.bits IntKind.u32)))))),(.val (.int .u8 (IntKind.wrap IntKind.u8 (Int.fdiv (je a n) ((2:Int)^min (Int.toNat (IntKind.wrap IntKind.u64 (IntKind.wrap IntKind.i64 ((24:Int)-IntKind.wrap IntKind.i64 ((8:Int)*IntKind.wrap IntKind.i64 (IntKind.wrap IntKind.i64 ((0:Int)+(1:Int))+(1:Int))))))) (IntKind.bits IntKind.u32))))))])], []⟩))))):=by kernel_rfl
theorem IS (a n:Int) (Q:TV→VT→Prop):aq Tryz.prog ae (aw [(np,o5)]) (aA [(999998, .dead,none),(16, .val (.int .i64 4),none)]) 300 aD 0 kL [.agg [.val (.int .u32 a), .val (.int .i64 n)]] ⟨[], []⟩ Q=
 (f9 (n)∧
 (ax Tryz.prog (fun _=> .none) (.binOp .quo 3 (.tmp 15) (.const (.int .i64 8)) 3) [(15,(.val (.int .i64 (IntKind.wrap IntKind.i64 (n+(7:Int))))))] (.val (.int .i64 4))∧
 (ax Tryz.prog (fun _=> .none) (.binOp .quo 3 (.tmp 15) (.const (.int .i64 8)) 3) [(15,(.val (.int .i64 (IntKind.wrap IntKind.i64 (n+(7:Int))))))] (.val (.int .i64 4))∧
 (ax Tryz.prog (fun _=> .none) (.binOp .quo 3 (.tmp 15) (.const (.int .i64 8)) 3) [(15,(.val (.int .i64 (IntKind.wrap IntKind.i64 (n+(7:Int))))))] (.val (.int .i64 4))∧
 (ax Tryz.prog (fun _=> .none) (.binOp .quo 3 (.tmp 15) (.const (.int .i64 8)) 3) [(15,(.val (.int .i64 (IntKind.wrap IntKind.i64 (n+(7:Int))))))] (.val (.int .i64 4))∧
 (ax Tryz.prog (fun _=> .none) (.binOp .quo 3 (.tmp 15) (.const (.int .i64 8)) 3) [(15,(.val (.int .i64 (IntKind.wrap IntKind.i64 (n+(7:Int))))))] (.val (.int .i64 4))∧
 Q (.row 1 5 0 5) ⟨[(.cells [(.val (.int .u32 (a))),(.val (.int .i64 (n)))]),(.cells [(.val (.int .u32 (je a n))),(.val (.int .i64 (n)))]), .gone, .gone, .gone,(.row [(.val (.int .u8 (IntKind.wrap IntKind.u8 n))),(.val (.int .u8 (IntKind.wrap IntKind.u8 (Int.fdiv (je a n) ((2:Int)^min (Int.toNat (IntKind.wrap IntKind.u64 (IntKind.wrap IntKind.i64 ((24:Int)-IntKind.wrap IntKind.i64 ((8:Int)*(0:Int)))))) (IntKind.bits IntKind.u32)))))),(.val (.int .u8 (IntKind.wrap IntKind.u8 (Int.fdiv (je a n) ((2:Int)^min (Int.toNat (IntKind.wrap IntKind.u64 (IntKind.wrap IntKind.i64 ((24:Int)-IntKind.wrap IntKind.i64 ((8:Int)*IntKind.wrap IntKind.i64 ((0:Int)+(1:Int))))))) (IntKind.bits IntKind.u32)))))),(.val (.int .u8 (IntKind.wrap IntKind.u8 (Int.fdiv (je a n) ((2:Int)^min (Int.toNat (IntKind.wrap IntKind.u64 (IntKind.wrap IntKind.i64 ((24:Int)-IntKind.wrap IntKind.i64 ((8:Int)*IntKind.wrap IntKind.i64 (IntKind.wrap IntKind.i64 ((0:Int)+(1:Int))+(1:Int))))))) (IntKind.bits IntKind.u32)))))),(.val (.int .u8 (IntKind.wrap IntKind.u8 (Int.fdiv (je a n) ((2:Int)^min (Int.toNat (IntKind.wrap IntKind.u64 (IntKind.wrap IntKind.i64 ((24:Int)-IntKind.wrap IntKind.i64 ((8:Int)*IntKind.wrap IntKind.i64 (IntKind.wrap IntKind.i64 (IntKind.wrap IntKind.i64 ((0:Int)+(1:Int))+(1:Int))+(1:Int))))))) (IntKind.bits IntKind.u32))))))])], []⟩)))))):=by kernel_rfl
theorem Mj (a n:Int) (Q:TV→VT→Prop):aq Tryz.prog ae (aw [(Me,FW)]) (aA [(999998, .dead,none)]) 300 aD 0 np [.agg [.val (.int .u32 a), .val (.int .i64 n)]] ⟨[], []⟩ Q=
 (bif decide (n<(0:Int))
 then (f9 0∧
 (((@Eq (Option TV) (.some (.val (.int .i64 0))) (.some (.val (.int .i64 0))))∧
 ((@Eq (Option TV) (.some (.val (.int .u32 (a)))) (.some (.val (.int .u32 (a)))))∧
 True))∧
 Q (.agg [(.val (.int .u32 (IntKind.wrap IntKind.u32 (↑(BitVec.toNat (BitVec.ofInt (IntKind.bits IntKind.u32) a&&&BitVec.ofInt (IntKind.bits IntKind.u32) (↑(kH (0:Int)):Int))):Int)))),(.val (.int .i64 0))]) ⟨[(.cells [(.val (.int .u32 (IntKind.wrap IntKind.u32 (↑(BitVec.toNat (BitVec.ofInt (IntKind.bits IntKind.u32) a&&&BitVec.ofInt (IntKind.bits IntKind.u32) (↑(kH (0:Int)):Int))):Int)))),(.val (.int .i64 0))]),(.cells [(.val (.int .u32 (IntKind.wrap IntKind.u32 (↑(BitVec.toNat (BitVec.ofInt (IntKind.bits IntKind.u32) a&&&BitVec.ofInt (IntKind.bits IntKind.u32) (↑(kH (0:Int)):Int))):Int)))),(.val (.int .i64 0))])], []⟩))
 else (bif decide (n>(32:Int))
 then (f9 32∧
 (((@Eq (Option TV) (.some (.val (.int .i64 32))) (.some (.val (.int .i64 32))))∧
 ((@Eq (Option TV) (.some (.val (.int .u32 (a)))) (.some (.val (.int .u32 (a)))))∧
 True))∧
 Q (.agg [(.val (.int .u32 (IntKind.wrap IntKind.u32 (↑(BitVec.toNat (BitVec.ofInt (IntKind.bits IntKind.u32) a&&&BitVec.ofInt (IntKind.bits IntKind.u32) (↑(kH (32:Int)):Int))):Int)))),(.val (.int .i64 32))]) ⟨[(.cells [(.val (.int .u32 (IntKind.wrap IntKind.u32 (↑(BitVec.toNat (BitVec.ofInt (IntKind.bits IntKind.u32) a&&&BitVec.ofInt (IntKind.bits IntKind.u32) (↑(kH (32:Int)):Int))):Int)))),(.val (.int .i64 32))]),(.cells [(.val (.int .u32 (IntKind.wrap IntKind.u32 (↑(BitVec.toNat (BitVec.ofInt (IntKind.bits IntKind.u32) a&&&BitVec.ofInt (IntKind.bits IntKind.u32) (↑(kH (32:Int)):Int))):Int)))),(.val (.int .i64 32))])], []⟩))
 else (f9 (n)∧
 (((@Eq (Option TV) (.some (.val (.int .i64 (n)))) (.some (.val (.int .i64 (n)))))∧
 ((@Eq (Option TV) (.some (.val (.int .u32 (a)))) (.some (.val (.int .u32 (a)))))∧
 True))∧
 Q (.agg [(.val (.int .u32 (IntKind.wrap IntKind.u32 (↑(BitVec.toNat (BitVec.ofInt (IntKind.bits IntKind.u32) a&&&BitVec.ofInt (IntKind.bits IntKind.u32) (↑(kH n):Int))):Int)))),(.val (.int .i64 (n)))]) ⟨[(.cells [(.val (.int .u32 (IntKind.wrap IntKind.u32 (↑(BitVec.toNat (BitVec.ofInt (IntKind.bits IntKind.u32) a&&&BitVec.ofInt (IntKind.bits IntKind.u32) (↑(kH n):Int))):Int)))),(.val (.int .i64 (n)))]),(.cells [(.val (.int .u32 (IntKind.wrap IntKind.u32 (↑(BitVec.toNat (BitVec.ofInt (IntKind.bits IntKind.u32) a&&&BitVec.ofInt (IntKind.bits IntKind.u32) (↑(kH n):Int))):Int)))),(.val (.int .i64 (n)))])], []⟩)))):=by kernel_rfl
theorem Mk (a:AtV) (ok:Bool) (Q:TV→VT→Prop):aq Tryz.prog ae (aw [(xI,t7 ok),(gE,t6),(kJ,BM)]) (II 53 1 (aA [(999998, .dead,none)])) 300 (Oo a (am Tryz.prog kK 0)) 0 kK [.agg a.cells] ⟨[], []⟩ Q=
 (Bx (AtV.cells a) (ok)∧
 (bif !ok
 then Q (.val (.slice .none 0 0)) ⟨[(.cells (AtV.cells a))], []⟩
 else (bif decide ((↑(List.length (iV (AtV.p a))):Int)>(0:Int))
 then ((am Tryz.prog kK (0:Nat)=am Tryz.prog kK (0:Nat))∧
 (((@Eq (Option Nat) .none .none)∧
 ((@Eq (Nat) 0 0)∧
 ((@Eq (List Nat) [] [])∧
 (True  ∧
 ((@Eq (VT) ⟨[(.cells (AtV.cells a))], []⟩ ⟨[(.cells (AtV.cells a))], []⟩)∧
 ((@Eq (Bool) true true)∧
 (@Eq (List TV) [(.ptr 0 0),(.vec 1 [[(.val (.int .u8 2))], [(.val (.int .u8 (IntKind.wrap IntKind.u8 (↑(List.length (iV (AtV.p a))):Int))))]] .none),(.vec 1 (iV (AtV.p a)) .none),(.val (.int .i64 ((↑(List.length (iV (AtV.p a))):Int)))),(.val (.int .i64 0))] [(.ptr 0 0),(.vec 1 (Bv a) .none),(.vec 1 (iV (AtV.p a)) .none),(.val (.int .i64 ((↑(List.length (iV (AtV.p a))):Int)))),(.val (.int .i64 0))])))))))∧
 (∀qo:Bs,(vG (a) (qo)→(eC (.val (.slice .none 0 0)) 4∧
 (∀qq:Bs,(dA (.val (.slice .none 0 0)) 4 (qq)→(((@Eq (Option TV) (.some (.val (.int .u32 (AtV.h a)))) (.some (.val (.int .u32 (AtV.h a)))))∧
 ((@Eq (Option TV) (.some (.val (.int .i64 (AtV.o a)))) (.some (.val (.int .i64 (AtV.o a)))))∧
 True))∧
 (bif AtV.hm a
 then (eC (.val (.slice .none 0 0)) 4∧
 (∀qq_7:Bs,(dA (.val (.slice .none 0 0)) 4 (qq_7)→(aB Tryz.prog (fun _=> .none) 0 ⟨[(.cells (AtV.cells a))], []⟩ (.call ⟨(.builtin .append), #[(.tmp 46),(.tmp 52)], #[135,135]⟩) [(46,(.vec 3 [[(.val (.int .i64 64)),(.val (.int .i64 1)),(.vec 1 [[(.val (.int .u8 (IntKind.wrap IntKind.u8 (AtV.o a))))]] .full)], [(.val (.int .i64 64)),(.val (.int .i64 2)),(.vec 1 (qo) .none)], [(.val (.int .i64 64)),(.val (.int .i64 3)),(.vec 1 (qq) .none)]] .full)),(52,(.vec 3 [[(.val (.int .i64 128)),(.val (.int .i64 4)),(.vec 1 (qq_7) .none)]] .full))] (.vec 3 [[(.val (.int .i64 64)),(.val (.int .i64 1)),(.vec 1 [[(.val (.int .u8 (IntKind.wrap IntKind.u8 (AtV.o a))))]] .full)], [(.val (.int .i64 64)),(.val (.int .i64 2)),(.vec 1 (qo) .none)], [(.val (.int .i64 64)),(.val (.int .i64 3)),(.vec 1 (qq) .none)], [(.val (.int .i64 128)),(.val (.int .i64 4)),(.vec 1 (qq_7) .none)]] (.tail 0 1)) ⟨[(.cells (AtV.cells a))], [(1,(3,false))]⟩∧
 (lE [[(.val (.int .i64 64)),(.val (.int .i64 1)),(.vec 1 [[(.val (.int .u8 (IntKind.wrap IntKind.u8 (AtV.o a))))]] .full)], [(.val (.int .i64 64)),(.val (.int .i64 2)),(.vec 1 (qo) .none)], [(.val (.int .i64 64)),(.val (.int .i64 3)),(.vec 1 (qq) .none)], [(.val (.int .i64 128)),(.val (.int .i64 4)),(.vec 1 (qq_7) .none)]]∧
 (∀qq_9:Bs,(ik [[(.val (.int .i64 64)),(.val (.int .i64 1)),(.vec 1 [[(.val (.int .u8 (IntKind.wrap IntKind.u8 (AtV.o a))))]] .full)], [(.val (.int .i64 64)),(.val (.int .i64 2)),(.vec 1 (qo) .none)], [(.val (.int .i64 64)),(.val (.int .i64 3)),(.vec 1 (qq) .none)], [(.val (.int .i64 128)),(.val (.int .i64 4)),(.vec 1 (qq_7) .none)]] (qq_9)→Q (.vec 1 (qq_9) .none) ⟨[(.cells (AtV.cells a))], [(1,(3,false))]⟩)))))))
 else (lE [[(.val (.int .i64 64)),(.val (.int .i64 1)),(.vec 1 [[(.val (.int .u8 (IntKind.wrap IntKind.u8 (AtV.o a))))]] .full)], [(.val (.int .i64 64)),(.val (.int .i64 2)),(.vec 1 (qo) .none)], [(.val (.int .i64 64)),(.val (.int .i64 3)),(.vec 1 (qq) .none)]]∧
 (∀qq_7:Bs,(ik [[(.val (.int .i64 64)),(.val (.int .i64 1)),(.vec 1 [[(.val (.int .u8 (IntKind.wrap IntKind.u8 (AtV.o a))))]] .full)], [(.val (.int .i64 64)),(.val (.int .i64 2)),(.vec 1 (qo) .none)], [(.val (.int .i64 64)),(.val (.int .i64 3)),(.vec 1 (qq) .none)]] (qq_7)→Q (.vec 1 (qq_7) .none) ⟨[(.cells (AtV.cells a))], []⟩))))))))))))
 else (eC (.val (.slice .none 0 0)) 4∧
 (∀qq:Bs,(dA (.val (.slice .none 0 0)) 4 (qq)→(((@Eq (Option TV) (.some (.val (.int .u32 (AtV.h a)))) (.some (.val (.int .u32 (AtV.h a)))))∧
 ((@Eq (Option TV) (.some (.val (.int .i64 (AtV.o a)))) (.some (.val (.int .i64 (AtV.o a)))))∧
 True))∧
 (bif AtV.hm a
 then (eC (.val (.slice .none 0 0)) 4∧
 (∀qq_5:Bs,(dA (.val (.slice .none 0 0)) 4 (qq_5)→(aB Tryz.prog (fun _=> .none) 0 ⟨[(.cells (AtV.cells a))], []⟩ (.call ⟨(.builtin .append), #[(.tmp 46),(.tmp 52)], #[135,135]⟩) [(46,(.vec 3 [[(.val (.int .i64 64)),(.val (.int .i64 1)),(.vec 1 [[(.val (.int .u8 (IntKind.wrap IntKind.u8 (AtV.o a))))]] .full)], [(.val (.int .i64 64)),(.val (.int .i64 2)),(.val (.slice .none 0 0))], [(.val (.int .i64 64)),(.val (.int .i64 3)),(.vec 1 (qq) .none)]] .full)),(52,(.vec 3 [[(.val (.int .i64 128)),(.val (.int .i64 4)),(.vec 1 (qq_5) .none)]] .full))] (.vec 3 [[(.val (.int .i64 64)),(.val (.int .i64 1)),(.vec 1 [[(.val (.int .u8 (IntKind.wrap IntKind.u8 (AtV.o a))))]] .full)], [(.val (.int .i64 64)),(.val (.int .i64 2)),(.val (.slice .none 0 0))], [(.val (.int .i64 64)),(.val (.int .i64 3)),(.vec 1 (qq) .none)], [(.val (.int .i64 128)),(.val (.int .i64 4)),(.vec 1 (qq_5) .none)]] (.tail 0 1)) ⟨[(.cells (AtV.cells a))], [(1,(3,false))]⟩∧
 (lE [[(.val (.int .i64 64)),(.val (.int .i64 1)),(.vec 1 [[(.val (.int .u8 (IntKind.wrap IntKind.u8 (AtV.o a))))]] .full)], [(.val (.int .i64 64)),(.val (.int .i64 2)),(.val (.slice .none 0 0))], [(.val (.int .i64 64)),(.val (.int .i64 3)),(.vec 1 (qq) .none)], [(.val (.int .i64 128)),(.val (.int .i64 4)),(.vec 1 (qq_5) .none)]]∧
 (∀qq_7:Bs,(ik [[(.val (.int .i64 64)),(.val (.int .i64 1)),(.vec 1 [[(.val (.int .u8 (IntKind.wrap IntKind.u8 (AtV.o a))))]] .full)], [(.val (.int .i64 64)),(.val (.int .i64 2)),(.val (.slice .none 0 0))], [(.val (.int .i64 64)),(.val (.int .i64 3)),(.vec 1 (qq) .none)], [(.val (.int .i64 128)),(.val (.int .i64 4)),(.vec 1 (qq_5) .none)]] (qq_7)→Q (.vec 1 (qq_7) .none) ⟨[(.cells (AtV.cells a))], [(1,(3,false))]⟩)))))))
 else (lE [[(.val (.int .i64 64)),(.val (.int .i64 1)),(.vec 1 [[(.val (.int .u8 (IntKind.wrap IntKind.u8 (AtV.o a))))]] .full)], [(.val (.int .i64 64)),(.val (.int .i64 2)),(.val (.slice .none 0 0))], [(.val (.int .i64 64)),(.val (.int .i64 3)),(.vec 1 (qq) .none)]]∧
 (∀qq_5:Bs,(ik [[(.val (.int .i64 64)),(.val (.int .i64 1)),(.vec 1 [[(.val (.int .u8 (IntKind.wrap IntKind.u8 (AtV.o a))))]] .full)], [(.val (.int .i64 64)),(.val (.int .i64 2)),(.val (.slice .none 0 0))], [(.val (.int .i64 64)),(.val (.int .i64 3)),(.vec 1 (qq) .none)]] (qq_5)→Q (.vec 1 (qq_5) .none) ⟨[(.cells (AtV.cells a))], []⟩))))))))))):=by kernel_rfl
theorem zD (a:AtV) (o:Bs) (z:Int) (j:Nat) (Q:Exit→List TV→VT→List Nat→Nat→Prop):vx Tryz.prog ae (aw [(gE,t6)]) (aA [(999998, .dead,none),(24, .elt [.val (.int .i64 z)],none)]) 300 aD none 0 (bd Tryz.prog kK 0) (aj 56 rg (o7 a o j)) (rh a) [] (bA rg Q)=
 (bif decide ((↑j:Int)<(↑(List.length (iV (AtV.p a))):Int))
 then (ax Tryz.prog (fun _=> .none) (.indexAddr 33 (.tmp 20) (.tmp 22)) [(20,(.vec 1 (iV (AtV.p a)) .none)),(22,(.val (.int .i64 ((↑j:Int)))))] (.elt [(.val (.int .i64 (z)))])∧
 (eC (.vec 1 (o) .none) 2∧
 (∀qq:Bs,(dA (.vec 1 (o) .none) 2 (qq)→Q .normal [(.ptr 0 0),(.vec 1 (qq) .none),(.vec 1 (iV (AtV.p a)) .none),(.val (.int .i64 ((↑(List.length (iV (AtV.p a))):Int)))),(.val (.int .i64 (IntKind.wrap IntKind.i64 ((↑j:Int)+(1:Int)))))] ⟨[(.cells (AtV.cells a))], []⟩ [] 56))))
 else Q (.exit 0) [(.ptr 0 0),(.vec 1 (o) .none),(.vec 1 (iV (AtV.p a)) .none),(.val (.int .i64 ((↑(List.length (iV (AtV.p a))):Int)))),(.val (.int .i64 ((↑j:Int))))] ⟨[(.cells (AtV.cells a))], []⟩ [] 56):=by kernel_rfl
theorem Ml (w n:Bs) (x:AtV) (Q:TV→VT→Prop):aq Tryz.prog ae (aw [(kM,BP),(kK,BN),(gE,BK)]) (jU 21 (jU 28 (jU 33 (aA [(999998, .dead,none)])))) 300 aD 0 xK [.agg (aV w x n)] ⟨[], []⟩ Q=
 (pM (w)∧
 (∀qq:Bs,(jE (w) (qq)→(bif decide ((↑(List.length n):Int)>(0:Int))
 then (GJ (AtV.cells x)∧
 (∀qq_6:Bs,(vF (qq_6)→(((@Eq (Nat) 0 0)∧
 eC (.val (.slice .none 0 0)) 2)∧
 (∀qq_8:Bs,(dA (.val (.slice .none 0 0)) 2 (qq_8)→(aB Tryz.prog (fun _=> .none) 0 ⟨[(.cells (aV w x n))], [((List.length qq_8),(1,false))]⟩ (.call ⟨(.builtin .append), #[(.tmp 19),(.tmp 20)], #[94,94]⟩) [(19,(.vec 1 (qq_8) (.tail 0 (List.length qq_8)))),(20,(.vec 1 (qq) .none))] (.vec 1 (qq_8++qq) (.tail 0 (List.length (qq_8++qq)))) ⟨[(.cells (aV w x n))], [((List.length (qq_8++qq)),(1,false))]⟩∧
 (((@Eq (Nat) 0 0)∧
 eC (.vec 1 (qq_8++qq) (.tail 0 (List.length (qq_8++qq)))) 2)∧
 (∀qq_10:Bs,(dA (.vec 1 (qq_8++qq) (.tail 0 (List.length (qq_8++qq)))) 2 (qq_10)→(aB Tryz.prog (fun _=> .none) 0 ⟨[(.cells (aV w x n))], [((List.length (qq_8++qq)),(1,false)),((List.length qq_10),(1,false))]⟩ (.call ⟨(.builtin .append), #[(.tmp 26),(.tmp 27)], #[94,94]⟩) [(26,(.vec 1 (qq_10) (.tail 1 (List.length qq_10)))),(27,(.vec 1 (qq_6) .none))] (.vec 1 (qq_10++qq_6) (.tail 1 (List.length (qq_10++qq_6)))) ⟨[(.cells (aV w x n))], [((List.length (qq_8++qq)),(1,false)),((List.length (qq_10++qq_6)),(1,false))]⟩∧
 (pM (n)∧
 (∀qq_12:Bs,(jE (n) (qq_12)→(aB Tryz.prog (fun _=> .none) 0 ⟨[(.cells (aV w x n))], [((List.length (qq_8++qq)),(1,false)),((List.length (qq_10++qq_6)),(1,false))]⟩ (.call ⟨(.builtin .append), #[(.tmp 29),(.tmp 32)], #[94,94]⟩) [(29,(.vec 1 (qq_10++qq_6) (.tail 1 (List.length (qq_10++qq_6))))),(32,(.vec 1 (qq_12) .none))] (.vec 1 (qq_10++qq_6++qq_12) (.tail 1 (List.length (qq_10++qq_6++qq_12)))) ⟨[(.cells (aV w x n))], [((List.length (qq_8++qq)),(1,false)),((List.length (qq_10++qq_6++qq_12)),(1,false))]⟩∧
 Q (.vec 1 (qq_10++qq_6++qq_12) (.tail 1 (List.length (qq_10++qq_6++qq_12)))) ⟨[(.cells (aV w x n))], [((List.length (qq_8++qq)),(1,false)),((List.length (qq_10++qq_6++qq_12)),(1,false))]⟩)))))))))))))))
 else (((@Eq (Nat) 0 0)∧
 eC (.val (.slice .none 0 0)) 2)∧
 (∀qq_6:Bs,(dA (.val (.slice .none 0 0)) 2 (qq_6)→(aB Tryz.prog (fun _=> .none) 0 ⟨[(.cells (aV w x n))], [((List.length qq_6),(1,false))]⟩ (.call ⟨(.builtin .append), #[(.tmp 19),(.tmp 20)], #[94,94]⟩) [(19,(.vec 1 (qq_6) (.tail 0 (List.length qq_6)))),(20,(.vec 1 (qq) .none))] (.vec 1 (qq_6++qq) (.tail 0 (List.length (qq_6++qq)))) ⟨[(.cells (aV w x n))], [((List.length (qq_6++qq)),(1,false))]⟩∧
 (((@Eq (Nat) 0 0)∧
 eC (.vec 1 (qq_6++qq) (.tail 0 (List.length (qq_6++qq)))) 2)∧
 (∀qq_8:Bs,(dA (.vec 1 (qq_6++qq) (.tail 0 (List.length (qq_6++qq)))) 2 (qq_8)→(aB Tryz.prog (fun _=> .none) 0 ⟨[(.cells (aV w x n))], [((List.length (qq_6++qq)),(1,false)),((List.length qq_8),(1,false))]⟩ (.call ⟨(.builtin .append), #[(.tmp 26),(.tmp 27)], #[94,94]⟩) [(26,(.vec 1 (qq_8) (.tail 1 (List.length qq_8)))),(27,(.val (.slice .none 0 0)))] (.vec 1 (qq_8) (.tail 1 (List.length qq_8))) ⟨[(.cells (aV w x n))], [((List.length (qq_6++qq)),(1,false)),((List.length qq_8),(1,false))]⟩∧
 (pM (n)∧
 (∀qq_10:Bs,(jE (n) (qq_10)→(aB Tryz.prog (fun _=> .none) 0 ⟨[(.cells (aV w x n))], [((List.length (qq_6++qq)),(1,false)),((List.length qq_8),(1,false))]⟩ (.call ⟨(.builtin .append), #[(.tmp 29),(.tmp 32)], #[94,94]⟩) [(29,(.vec 1 (qq_8) (.tail 1 (List.length qq_8)))),(32,(.vec 1 (qq_10) .none))] (.vec 1 (qq_8++qq_10) (.tail 1 (List.length (qq_8++qq_10)))) ⟨[(.cells (aV w x n))], [((List.length (qq_6++qq)),(1,false)),((List.length (qq_8++qq_10)),(1,false))]⟩∧
 Q (.vec 1 (qq_8++qq_10) (.tail 1 (List.length (qq_8++qq_10)))) ⟨[(.cells (aV w x n))], [((List.length (qq_6++qq)),(1,false)),((List.length (qq_8++qq_10)),(1,false))]⟩)))))))))))))))):=by kernel_rfl
theorem Mm (w n L:Bs) (x:AtV) (b ok oz:Bool) (Q:TV→VT→Prop):aq Tryz.prog ae (aw [(gi,BQ oz),(xI,t7 ok)]) (aA [(999998, .dead,none),(8, .vec 2 w (.tail 0 w.length),some fun T=>{T with tails:= [(w.length,2,false)]}),(11, .vec 2 L (.tail 0 L.length),some fun T=>{T with tails:= [(L.length,2,false)]})]) 300 (Oq w x n L (.tail 0 L.length) [(L.length,2,false)] b (am Tryz.prog kN 0)) 0 kN [.agg (aV w x n)] ⟨[], []⟩ Q=
 (aB Tryz.prog (fun _=> .none) 0 ⟨[(.cells (aV w x n))], []⟩ (.call ⟨(.builtin .append), #[(.tmp 5),(.tmp 7)], #[32,32]⟩) [(5,(.vec 2 [] .full)),(7,(.vec 2 (w) .none))] (.vec 2 (w) (.tail 0 (List.length w))) ⟨[(.cells (aV w x n))], [((List.length w),(2,false))]⟩∧
 (((@Eq (Option TV) (.some (.vec 2 (n) .none)) (.some (.vec 2 (n) .none)))∧
 ((@Eq (Option TV) (.some (.vec 2 (w) .none)) (.some (.vec 2 (w) .none)))∧
 True))∧
 (aB Tryz.prog (fun _=> .none) 0 ⟨[(.cells (aV w x n))], [((List.length w),(2,false))]⟩ (.call ⟨(.builtin .append), #[(.tmp 8),(.tmp 10)], #[32,32]⟩) [(8,(.vec 2 (w) (.tail 0 (List.length w)))),(10,(.vec 2 (n) .none))] (.vec 2 (L) (.tail 0 (List.length L))) ⟨[(.cells (aV w x n))], [((List.length L),(2,false))]⟩∧
 ((am Tryz.prog kN (0:Nat)=am Tryz.prog kN (0:Nat))∧
 (((@Eq (Option Nat) .none .none)∧
 ((@Eq (Nat) 0 0)∧
 ((@Eq (List Nat) [] [])∧
 (True  ∧
 ((@Eq (VT) ⟨[(.cells (aV w x n))], [((List.length L),(2,false))]⟩ ⟨[(.cells (aV w x n))], [((List.length L),(2,false))]⟩)∧
 ((@Eq (Bool) true true)∧
 (@Eq (List TV) [(.val (.bool false)),(.ptr 0 0),(.vec 2 (L) (.tail 0 (List.length L))),(.val (.int .i64 ((↑(List.length L):Int)))),(.val (.int .i64 0))] [(.val (.bool false)),(.ptr 0 0),(.vec 2 (L) (.tail 0 (List.length L))),(.val (.int .i64 ((↑(List.length L):Int)))),(.val (.int .i64 0))])))))))∧
 (bif b
 then (bif aG BinOp.eql (ar (Value.int IntKind.i64 (↑(List.length n):Int)) (Value.int IntKind.i64 (0:Int)))
 then (GK (AtV.cells x) [(.val (.int .i64 0)),(.val (.slice .none 0 0)),(.val (.int .u32 0)),(.val (.int .i64 0)),(.val (.bool false))] (oz)∧
 Q (.val (.bool (oz))) ⟨[(.cells (aV w x n))], [((List.length L),(2,false))]⟩)
 else (Bx (AtV.cells x) (ok)∧
 Q (.val (.bool (ok))) ⟨[(.cells (aV w x n))], [((List.length L),(2,false))]⟩))
 else (∀jj:Int,(∀oo:List VO,Q (.val (.bool false)) ⟨(oo), [((List.length L),(2,false))]⟩)))))))):=by kernel_rfl
theorem zE (w n L:Bs) (x:AtV) (tk:Tok) (tl:eo) (a z:Int) (j:Nat) (Q:Exit→List TV→VT→List Nat→Nat→Prop):vx Tryz.prog ae (aw [(FU,BS)]) (aA [(999998, .dead,none),(15, .elt (cj (a,z)),none)]) 300 aD none 0 (bd Tryz.prog kN 0) (aj 32 nq (jm L tk j)) (ri w x n tl) [] (bA nq Q)=
 (bif decide ((↑j:Int)<(↑(List.length L):Int))
 then (ax Tryz.prog (fun _=> .none) (.indexAddr 32 (.tmp 11) (.tmp 13)) [(11,(.vec 2 (L) (tk))),(13,(.val (.int .i64 ((↑j:Int)))))] (.elt [(.val (.int .u32 (Prod.fst (a,z)))),(.val (.int .i64 (Prod.snd (a,z))))])∧
 (GL (Prod.fst (a,z)) (Prod.snd (a,z))∧
 (bif !dN (Prod.fst (a,z)) (Prod.snd (a,z))
 then Q .ret [(.val (.bool false)),(.ptr 0 0),(.vec 2 (L) (tk)),(.val (.int .i64 ((↑(List.length L):Int)))),(.val (.int .i64 ((↑j:Int))))] ⟨[(.cells (aV w x n)),(.cells [(.val (.int .u32 (Prod.fst (a,z)))),(.val (.int .i64 (Prod.snd (a,z))))])],(tl)⟩ [] 32
 else Q .normal [(.val (.bool false)),(.ptr 0 0),(.vec 2 (L) (tk)),(.val (.int .i64 ((↑(List.length L):Int)))),(.val (.int .i64 (IntKind.wrap IntKind.i64 ((↑j:Int)+(1:Int)))))] ⟨[(.cells (aV w x n)),(.cells [(.val (.int .u32 (Prod.fst (a,z)))),(.val (.int .i64 (Prod.snd (a,z))))])],(tl)⟩ [] 32)))
 else Q (.exit 0) [(.val (.bool false)),(.ptr 0 0),(.vec 2 (L) (tk)),(.val (.int .i64 ((↑(List.length L):Int)))),(.val (.int .i64 ((↑j:Int))))] ⟨[(.cells (aV w x n))],(tl)⟩ [] 32):=by kernel_rfl
theorem Mn (w n:Bs) (x:AtV) (ok:Bool) (Q:TV→VT→Prop):aq Tryz.prog ae (aw [(kN,BT ok),(xK,BU)]) (aA [(999998, .dead,none)]) 300 aD 0 re [.agg (aV w x n)] ⟨[], []⟩ Q=
 (GM (aV w x n) (ok)∧
 (bif !ok
 then Q (.val (.int .i64 0)) ⟨[(.cells (aV w x n))], []⟩
 else (GN (aV w x n)∧
 (∀qq:Bs,(vI (aV w x n) (qq)→Q (.val (.int .i64 ((↑(List.length qq):Int)))) ⟨[(.cells (aV w x n))], []⟩))))):=by kernel_rfl
theorem Mo (L M:Bs) (Q:TV→VT→Prop):aq Tryz.prog ae aR (aA [(999998, .dead,none)]) 300 (Ot L M (am Tryz.prog lR 0)) 0 lR [.vec 2 L .none, .vec 2 M .none] ⟨[], []⟩ Q=
 (bif aG BinOp.neq (ar (Value.int IntKind.i64 (↑(List.length L):Int)) (Value.int IntKind.i64 (↑(List.length M):Int)))
 then Q (.val (.bool false)) ⟨[], []⟩
 else ((am Tryz.prog lR (0:Nat)=am Tryz.prog lR (0:Nat))∧
 (((@Eq (Option Nat) .none .none)∧
 ((@Eq (Nat) 0 0)∧
 ((@Eq (List Nat) [] [])∧
 (True  ∧
 ((@Eq (VT) ⟨[], []⟩ ⟨[], []⟩)∧
 ((@Eq (Bool) true true)∧
 (@Eq (List TV) [(.val (.bool false)),(.vec 2 (L) .none),(.vec 2 (M) .none),(.val (.int .i64 ((↑(List.length L):Int)))),(.val (.int .i64 0))] [(.val (.bool false)),(.vec 2 (L) .none),(.vec 2 (M) .none),(.val (.int .i64 ((↑(List.length L):Int)))),(.val (.int .i64 0))])))))))∧
 Q (.val (.bool true)) ⟨[], []⟩))):=by kernel_rfl
theorem zF (L M:Bs) (a n b m:Int) (j:Nat) (Q:Exit→List TV→VT→List Nat→Nat→Prop):vx Tryz.prog ae aR (aA [(999998, .dead,none),(18, .elt (cj (a,n)),none),(22, .elt (cj (b,m)),none)]) 300 aD none 0 (bd Tryz.prog lR 0) (aj 26 xU (uc L M j)) ⟨[], []⟩ [] (bA xU Q)=
 (bif decide ((↑j:Int)<(↑(List.length L):Int))
 then (ax Tryz.prog (fun _=> .none) (.indexAddr 32 (.tmp 16) (.tmp 17)) [(16,(.vec 2 (L) .none)),(17,(.val (.int .i64 ((↑j:Int)))))] (.elt [(.val (.int .u32 (Prod.fst (a,n)))),(.val (.int .i64 (Prod.snd (a,n))))])∧
 (ax Tryz.prog (fun _=> .none) (.indexAddr 32 (.tmp 20) (.tmp 21)) [(20,(.vec 2 (M) .none)),(21,(.val (.int .i64 ((↑j:Int)))))] (.elt [(.val (.int .u32 (Prod.fst (b,m)))),(.val (.int .i64 (Prod.snd (b,m))))])∧
 (bif aG BinOp.neq (ar ((fun vs=>Value.agg (List.toArray vs)) ((fun x=>Value.int IntKind.u32 (Prod.fst (a,n))::x) ((fun x=>Value.int IntKind.i64 (Prod.snd (a,n))::x) []))) ((fun vs=>Value.agg (List.toArray vs)) ((fun x=>Value.int IntKind.u32 (Prod.fst (b,m))::x) ((fun x=>Value.int IntKind.i64 (Prod.snd (b,m))::x) []))))
 then Q .ret [(.val (.bool false)),(.vec 2 (L) .none),(.vec 2 (M) .none),(.val (.int .i64 ((↑(List.length L):Int)))),(.val (.int .i64 ((↑j:Int))))] ⟨[], []⟩ [] 26
 else Q .normal [(.val (.bool false)),(.vec 2 (L) .none),(.vec 2 (M) .none),(.val (.int .i64 ((↑(List.length L):Int)))),(.val (.int .i64 (IntKind.wrap IntKind.i64 ((↑j:Int)+(1:Int)))))] ⟨[], []⟩ [] 26)))
 else Q (.exit 0) [(.val (.bool false)),(.vec 2 (L) .none),(.vec 2 (M) .none),(.val (.int .i64 ((↑(List.length L):Int)))),(.val (.int .i64 ((↑j:Int))))] ⟨[], []⟩ [] 26):=by kernel_rfl
theorem Mp (w n w2 n2:Bs) (x y:AtV) (Q:TV→VT→Prop):aq Tryz.prog ae (aw [(lR,BV),(gi,il true)]) (aA [(999998, .dead,none)]) 300 aD 0 xL [.agg (aV w x n), .agg (aV w2 y n2)] ⟨[], []⟩ Q=
 (By (w) (w2)∧
 (By (n) (n2)∧
 (jF (AtV.cells x) (AtV.cells y) true∧
 Q (.val (.bool true)) ⟨[(.cells (aV w x n)),(.cells (aV w2 y n2))], []⟩))):=by kernel_rfl
theorem IT (w w2 n:Bs) (x y:AtV) (a z:Int) (Q:TV→VT→Prop):aq Tryz.prog ae (aw [(re,ub)]) (aA [(999998, .dead,none),(11, .vec 2 w (.tail 0 w.length),some fun T=>{T with tails:= [(w.length,2,false)]}),(15, .vec 2 w2 (.tail 0 w2.length),some fun T=>{T with tails:= [(w2.length,2,false)]})]) 300 aD 0 lS [.agg (aV w x n), .agg (az a z y true)] ⟨[], []⟩ Q=
 (aB Tryz.prog (fun _=> .none) 0 ⟨[(.cells (aV w x n)),(.cells (az a z y true)),(.cells [(.val (.slice .none 0 0)),(.val (.int .i64 0)),(.val (.slice .none 0 0)),(.val (.int .u32 0)),(.val (.int .i64 0)),(.val (.bool false)),(.val (.slice .none 0 0))])], []⟩ (.call ⟨(.builtin .append), #[(.tmp 8),(.tmp 10)], #[32,32]⟩) [(8,(.vec 2 [] .full)),(10,(.vec 2 (w) .none))] (.vec 2 (w) (.tail 0 (List.length w))) ⟨[(.cells (aV w x n)),(.cells (az a z y true)),(.cells [(.val (.slice .none 0 0)),(.val (.int .i64 0)),(.val (.slice .none 0 0)),(.val (.int .u32 0)),(.val (.int .i64 0)),(.val (.bool false)),(.val (.slice .none 0 0))])], [((List.length w),(2,false))]⟩∧
 (((@Eq (Option TV) (.some (.agg [(.val (.int .u32 (a))),(.val (.int .i64 (z)))])) (.some (.agg [(.val (.int .u32 (a))),(.val (.int .i64 (z)))])))∧
 ((@Eq (Option TV) (.some (.vec 2 (w) .none)) (.some (.vec 2 (w) .none)))∧
 True))∧
 (aB Tryz.prog (fun _=> .none) 0 ⟨[(.cells (aV w x n)),(.cells (az a z y true)),(.cells [(.val (.slice .none 0 0)),(.val (.int .i64 0)),(.val (.slice .none 0 0)),(.val (.int .u32 0)),(.val (.int .i64 0)),(.val (.bool false)),(.val (.slice .none 0 0))])], [((List.length w),(2,false))]⟩ (.call ⟨(.builtin .append), #[(.tmp 11),(.tmp 14)], #[32,32]⟩) [(11,(.vec 2 (w) (.tail 0 (List.length w)))),(14,(.vec 2 [[(.val (.int .u32 (a))),(.val (.int .i64 (z)))]] .full))] (.vec 2 (w2) (.tail 0 (List.length w2))) ⟨[(.cells (aV w x n)),(.cells (az a z y true)),(.cells [(.val (.slice .none 0 0)),(.val (.int .i64 0)),(.val (.slice .none 0 0)),(.val (.int .u32 0)),(.val (.int .i64 0)),(.val (.bool false)),(.val (.slice .none 0 0))])], [((List.length w2),(2,false))]⟩∧
 (bif aG BinOp.eql (ar (Value.int IntKind.i64 (↑(List.length n):Int)) (Value.int IntKind.i64 (0:Int)))
 then (vJ [(.vec 2 (w2) (.tail 0 (List.length w2))),(.val (.int .i64 (AtV.o x))),(.vec 1 (iV (AtV.p x)) .none),(.val (.int .u32 (AtV.h x))),(.val (.int .i64 (AtV.m x))),(.val (.bool (AtV.hm x))),(.vec 2 (n) .none)]∧
 (∀qz:Int,(vK [(.vec 2 (w2) (.tail 0 (List.length w2))),(.val (.int .i64 (AtV.o x))),(.vec 1 (iV (AtV.p x)) .none),(.val (.int .u32 (AtV.h x))),(.val (.int .i64 (AtV.m x))),(.val (.bool (AtV.hm x))),(.vec 2 (n) .none)] (qz)→(((@Eq (Option TV) (.some (.agg [(.vec 2 (w2) (.tail 0 (List.length w2))),(.val (.int .i64 (AtV.o x))),(.vec 1 (iV (AtV.p x)) .none),(.val (.int .u32 (AtV.h x))),(.val (.int .i64 (AtV.m x))),(.val (.bool (AtV.hm x))),(.vec 2 (n) .none)])) (.some (.agg [(.vec 2 (w2) (.tail 0 (List.length w2))),(.val (.int .i64 (AtV.o x))),(.vec 1 (iV (AtV.p x)) .none),(.val (.int .u32 (AtV.h x))),(.val (.int .i64 (AtV.m x))),(.val (.bool (AtV.hm x))),(.vec 2 (n) .none)])))∧
 (True  ∧
 ((@Eq (Option TV) (.some (.vec 2 (n) .none)) (.some (.vec 2 (n) .none)))∧
 ((@Eq (Option TV) (.some (.agg [(.vec 2 (w2) (.tail 0 (List.length w2))),(.val (.int .i64 (AtV.o x))),(.vec 1 (iV (AtV.p x)) .none),(.val (.int .u32 (AtV.h x))),(.val (.int .i64 (AtV.m x))),(.val (.bool (AtV.hm x))),(.vec 2 (n) .none)])) (.some (.agg [(.vec 2 (w2) (.tail 0 (List.length w2))),(.val (.int .i64 (AtV.o x))),(.vec 1 (iV (AtV.p x)) .none),(.val (.int .u32 (AtV.h x))),(.val (.int .i64 (AtV.m x))),(.val (.bool (AtV.hm x))),(.vec 2 (n) .none)])))∧
 True))))∧
 Q (.tup [(.agg [(.vec 2 (w2) (.tail 0 (List.length w2))),(.val (.int .i64 (AtV.o x))),(.vec 1 (iV (AtV.p x)) .none),(.val (.int .u32 (AtV.h x))),(.val (.int .i64 (AtV.m x))),(.val (.bool (AtV.hm x))),(.vec 2 (n) .none)]),(.val (.bool (decide (qz≤(4077:Int)))))]) ⟨[(.cells [(.vec 2 (w2) (.tail 0 (List.length w2))),(.val (.int .i64 (AtV.o x))),(.vec 1 (iV (AtV.p x)) .none),(.val (.int .u32 (AtV.h x))),(.val (.int .i64 (AtV.m x))),(.val (.bool (AtV.hm x))),(.vec 2 (n) .none)]),(.cells (az a z y true)),(.cells [(.vec 2 (w2) (.tail 0 (List.length w2))),(.val (.int .i64 (AtV.o x))),(.vec 1 (iV (AtV.p x)) .none),(.val (.int .u32 (AtV.h x))),(.val (.int .i64 (AtV.m x))),(.val (.bool (AtV.hm x))),(.vec 2 (n) .none)])], [((List.length w2),(2,false))]⟩))))
 else Q (.tup [(.agg [(.vec 2 (w2) (.tail 0 (List.length w2))),(.val (.int .i64 (AtV.o x))),(.vec 1 (iV (AtV.p x)) .none),(.val (.int .u32 (AtV.h x))),(.val (.int .i64 (AtV.m x))),(.val (.bool (AtV.hm x))),(.vec 2 (n) .none)]),(.val (.bool false))]) ⟨[(.cells [(.vec 2 (w2) (.tail 0 (List.length w2))),(.val (.int .i64 (AtV.o x))),(.vec 1 (iV (AtV.p x)) .none),(.val (.int .u32 (AtV.h x))),(.val (.int .i64 (AtV.m x))),(.val (.bool (AtV.hm x))),(.vec 2 (n) .none)]),(.cells (az a z y true)),(.cells [(.vec 2 (w2) (.tail 0 (List.length w2))),(.val (.int .i64 (AtV.o x))),(.vec 1 (iV (AtV.p x)) .none),(.val (.int .u32 (AtV.h x))),(.val (.int .i64 (AtV.m x))),(.val (.bool (AtV.hm x))),(.vec 2 (n) .none)])], [((List.length w2),(2,false))]⟩)))):=by kernel_rfl
theorem IU (w n n2:Bs) (x y:AtV) (a z:Int) (ok:Bool) (Q:TV→VT→Prop):aq Tryz.prog ae (aw [(re,ub),(gi,il ok)]) (aA [(999998, .dead,none),(46, .vec 2 n (.tail 0 n.length),some fun T=>{T with tails:= [(n.length,2,false)]}),(50, .vec 2 n2 (.tail 0 n2.length),some fun T=>{T with tails:= [(n2.length,2,false)]})]) 300 aD 0 lS [.agg (aV w x n), .agg (az a z y false)] ⟨[], []⟩ Q=
 (bif decide ((↑(List.length n):Int)>(0:Int))
 then (jF (AtV.cells x) (AtV.cells y) (ok)∧
 (bif !ok
 then Q (.tup [(.agg (aV w x n)),(.val (.bool false))]) ⟨[(.cells (aV w x n)),(.cells (az a z y false)),(.cells (aV w x n))], []⟩
 else (aB Tryz.prog (fun _=> .none) 0 ⟨[(.cells (aV w y n)),(.cells (az a z y false)),(.cells [(.val (.slice .none 0 0)),(.val (.int .i64 0)),(.val (.slice .none 0 0)),(.val (.int .u32 0)),(.val (.int .i64 0)),(.val (.bool false)),(.val (.slice .none 0 0))])], []⟩ (.call ⟨(.builtin .append), #[(.tmp 43),(.tmp 45)], #[32,32]⟩) [(43,(.vec 2 [] .full)),(45,(.vec 2 (n) .none))] (.vec 2 (n) (.tail 0 (List.length n))) ⟨[(.cells (aV w y n)),(.cells (az a z y false)),(.cells [(.val (.slice .none 0 0)),(.val (.int .i64 0)),(.val (.slice .none 0 0)),(.val (.int .u32 0)),(.val (.int .i64 0)),(.val (.bool false)),(.val (.slice .none 0 0))])], [((List.length n),(2,false))]⟩∧
 (((@Eq (Option TV) (.some (.agg [(.val (.int .u32 (a))),(.val (.int .i64 (z)))])) (.some (.agg [(.val (.int .u32 (a))),(.val (.int .i64 (z)))])))∧
 ((@Eq (Option TV) (.some (.vec 2 (n) .none)) (.some (.vec 2 (n) .none)))∧
 True))∧
 (aB Tryz.prog (fun _=> .none) 0 ⟨[(.cells (aV w y n)),(.cells (az a z y false)),(.cells [(.val (.slice .none 0 0)),(.val (.int .i64 0)),(.val (.slice .none 0 0)),(.val (.int .u32 0)),(.val (.int .i64 0)),(.val (.bool false)),(.val (.slice .none 0 0))])], [((List.length n),(2,false))]⟩ (.call ⟨(.builtin .append), #[(.tmp 46),(.tmp 49)], #[32,32]⟩) [(46,(.vec 2 (n) (.tail 0 (List.length n)))),(49,(.vec 2 [[(.val (.int .u32 (a))),(.val (.int .i64 (z)))]] .full))] (.vec 2 (n2) (.tail 0 (List.length n2))) ⟨[(.cells (aV w y n)),(.cells (az a z y false)),(.cells [(.val (.slice .none 0 0)),(.val (.int .i64 0)),(.val (.slice .none 0 0)),(.val (.int .u32 0)),(.val (.int .i64 0)),(.val (.bool false)),(.val (.slice .none 0 0))])], [((List.length n2),(2,false))]⟩∧
 (bif aG BinOp.eql (ar (Value.int IntKind.i64 (↑(List.length w):Int)) (Value.int IntKind.i64 (0:Int)))
 then (vJ [(.vec 2 (w) .none),(.val (.int .i64 (AtV.o y))),(.vec 1 (iV (AtV.p y)) .none),(.val (.int .u32 (AtV.h y))),(.val (.int .i64 (AtV.m y))),(.val (.bool (AtV.hm y))),(.vec 2 (n2) (.tail 0 (List.length n2)))]∧
 (∀qz:Int,(vK [(.vec 2 (w) .none),(.val (.int .i64 (AtV.o y))),(.vec 1 (iV (AtV.p y)) .none),(.val (.int .u32 (AtV.h y))),(.val (.int .i64 (AtV.m y))),(.val (.bool (AtV.hm y))),(.vec 2 (n2) (.tail 0 (List.length n2)))] (qz)→(((@Eq (Option TV) (.some (.agg [(.vec 2 (w) .none),(.val (.int .i64 (AtV.o y))),(.vec 1 (iV (AtV.p y)) .none),(.val (.int .u32 (AtV.h y))),(.val (.int .i64 (AtV.m y))),(.val (.bool (AtV.hm y))),(.vec 2 (n2) (.tail 0 (List.length n2)))])) (.some (.agg [(.vec 2 (w) .none),(.val (.int .i64 (AtV.o y))),(.vec 1 (iV (AtV.p y)) .none),(.val (.int .u32 (AtV.h y))),(.val (.int .i64 (AtV.m y))),(.val (.bool (AtV.hm y))),(.vec 2 (n2) (.tail 0 (List.length n2)))])))∧
 (True  ∧
 ((@Eq (Option TV) (.some (.vec 2 (w) .none)) (.some (.vec 2 (w) .none)))∧
 ((@Eq (Option TV) (.some (.agg [(.vec 2 (w) .none),(.val (.int .i64 (AtV.o y))),(.vec 1 (iV (AtV.p y)) .none),(.val (.int .u32 (AtV.h y))),(.val (.int .i64 (AtV.m y))),(.val (.bool (AtV.hm y))),(.vec 2 (n2) (.tail 0 (List.length n2)))])) (.some (.agg [(.vec 2 (w) .none),(.val (.int .i64 (AtV.o y))),(.vec 1 (iV (AtV.p y)) .none),(.val (.int .u32 (AtV.h y))),(.val (.int .i64 (AtV.m y))),(.val (.bool (AtV.hm y))),(.vec 2 (n2) (.tail 0 (List.length n2)))])))∧
 True))))∧
 Q (.tup [(.agg [(.vec 2 (w) .none),(.val (.int .i64 (AtV.o y))),(.vec 1 (iV (AtV.p y)) .none),(.val (.int .u32 (AtV.h y))),(.val (.int .i64 (AtV.m y))),(.val (.bool (AtV.hm y))),(.vec 2 (n2) (.tail 0 (List.length n2)))]),(.val (.bool (decide (qz≤(4077:Int)))))]) ⟨[(.cells [(.vec 2 (w) .none),(.val (.int .i64 (AtV.o y))),(.vec 1 (iV (AtV.p y)) .none),(.val (.int .u32 (AtV.h y))),(.val (.int .i64 (AtV.m y))),(.val (.bool (AtV.hm y))),(.vec 2 (n2) (.tail 0 (List.length n2)))]),(.cells (az a z y false)),(.cells [(.vec 2 (w) .none),(.val (.int .i64 (AtV.o y))),(.vec 1 (iV (AtV.p y)) .none),(.val (.int .u32 (AtV.h y))),(.val (.int .i64 (AtV.m y))),(.val (.bool (AtV.hm y))),(.vec 2 (n2) (.tail 0 (List.length n2)))])], [((List.length n2),(2,false))]⟩))))
 else Q (.tup [(.agg [(.vec 2 (w) .none),(.val (.int .i64 (AtV.o y))),(.vec 1 (iV (AtV.p y)) .none),(.val (.int .u32 (AtV.h y))),(.val (.int .i64 (AtV.m y))),(.val (.bool (AtV.hm y))),(.vec 2 (n2) (.tail 0 (List.length n2)))]),(.val (.bool false))]) ⟨[(.cells [(.vec 2 (w) .none),(.val (.int .i64 (AtV.o y))),(.vec 1 (iV (AtV.p y)) .none),(.val (.int .u32 (AtV.h y))),(.val (.int .i64 (AtV.m y))),(.val (.bool (AtV.hm y))),(.vec 2 (n2) (.tail 0 (List.length n2)))]),(.cells (az a z y false)),(.cells [(.vec 2 (w) .none),(.val (.int .i64 (AtV.o y))),(.vec 1 (iV (AtV.p y)) .none),(.val (.int .u32 (AtV.h y))),(.val (.int .i64 (AtV.m y))),(.val (.bool (AtV.hm y))),(.vec 2 (n2) (.tail 0 (List.length n2)))])], [((List.length n2),(2,false))]⟩))))))
 else (aB Tryz.prog (fun _=> .none) 0 ⟨[(.cells (aV w y n)),(.cells (az a z y false)),(.cells [(.val (.slice .none 0 0)),(.val (.int .i64 0)),(.val (.slice .none 0 0)),(.val (.int .u32 0)),(.val (.int .i64 0)),(.val (.bool false)),(.val (.slice .none 0 0))])], []⟩ (.call ⟨(.builtin .append), #[(.tmp 43),(.tmp 45)], #[32,32]⟩) [(43,(.vec 2 [] .full)),(45,(.vec 2 (n) .none))] (.vec 2 (n) (.tail 0 (List.length n))) ⟨[(.cells (aV w y n)),(.cells (az a z y false)),(.cells [(.val (.slice .none 0 0)),(.val (.int .i64 0)),(.val (.slice .none 0 0)),(.val (.int .u32 0)),(.val (.int .i64 0)),(.val (.bool false)),(.val (.slice .none 0 0))])], [((List.length n),(2,false))]⟩∧
 (((@Eq (Option TV) (.some (.agg [(.val (.int .u32 (a))),(.val (.int .i64 (z)))])) (.some (.agg [(.val (.int .u32 (a))),(.val (.int .i64 (z)))])))∧
 ((@Eq (Option TV) (.some (.vec 2 (n) .none)) (.some (.vec 2 (n) .none)))∧
 True))∧
 (aB Tryz.prog (fun _=> .none) 0 ⟨[(.cells (aV w y n)),(.cells (az a z y false)),(.cells [(.val (.slice .none 0 0)),(.val (.int .i64 0)),(.val (.slice .none 0 0)),(.val (.int .u32 0)),(.val (.int .i64 0)),(.val (.bool false)),(.val (.slice .none 0 0))])], [((List.length n),(2,false))]⟩ (.call ⟨(.builtin .append), #[(.tmp 46),(.tmp 49)], #[32,32]⟩) [(46,(.vec 2 (n) (.tail 0 (List.length n)))),(49,(.vec 2 [[(.val (.int .u32 (a))),(.val (.int .i64 (z)))]] .full))] (.vec 2 (n2) (.tail 0 (List.length n2))) ⟨[(.cells (aV w y n)),(.cells (az a z y false)),(.cells [(.val (.slice .none 0 0)),(.val (.int .i64 0)),(.val (.slice .none 0 0)),(.val (.int .u32 0)),(.val (.int .i64 0)),(.val (.bool false)),(.val (.slice .none 0 0))])], [((List.length n2),(2,false))]⟩∧
 (bif aG BinOp.eql (ar (Value.int IntKind.i64 (↑(List.length w):Int)) (Value.int IntKind.i64 (0:Int)))
 then (vJ [(.vec 2 (w) .none),(.val (.int .i64 (AtV.o y))),(.vec 1 (iV (AtV.p y)) .none),(.val (.int .u32 (AtV.h y))),(.val (.int .i64 (AtV.m y))),(.val (.bool (AtV.hm y))),(.vec 2 (n2) (.tail 0 (List.length n2)))]∧
 (∀qz:Int,(vK [(.vec 2 (w) .none),(.val (.int .i64 (AtV.o y))),(.vec 1 (iV (AtV.p y)) .none),(.val (.int .u32 (AtV.h y))),(.val (.int .i64 (AtV.m y))),(.val (.bool (AtV.hm y))),(.vec 2 (n2) (.tail 0 (List.length n2)))] (qz)→(((@Eq (Option TV) (.some (.agg [(.vec 2 (w) .none),(.val (.int .i64 (AtV.o y))),(.vec 1 (iV (AtV.p y)) .none),(.val (.int .u32 (AtV.h y))),(.val (.int .i64 (AtV.m y))),(.val (.bool (AtV.hm y))),(.vec 2 (n2) (.tail 0 (List.length n2)))])) (.some (.agg [(.vec 2 (w) .none),(.val (.int .i64 (AtV.o y))),(.vec 1 (iV (AtV.p y)) .none),(.val (.int .u32 (AtV.h y))),(.val (.int .i64 (AtV.m y))),(.val (.bool (AtV.hm y))),(.vec 2 (n2) (.tail 0 (List.length n2)))])))∧
 (True  ∧
 ((@Eq (Option TV) (.some (.vec 2 (w) .none)) (.some (.vec 2 (w) .none)))∧
 ((@Eq (Option TV) (.some (.agg [(.vec 2 (w) .none),(.val (.int .i64 (AtV.o y))),(.vec 1 (iV (AtV.p y)) .none),(.val (.int .u32 (AtV.h y))),(.val (.int .i64 (AtV.m y))),(.val (.bool (AtV.hm y))),(.vec 2 (n2) (.tail 0 (List.length n2)))])) (.some (.agg [(.vec 2 (w) .none),(.val (.int .i64 (AtV.o y))),(.vec 1 (iV (AtV.p y)) .none),(.val (.int .u32 (AtV.h y))),(.val (.int .i64 (AtV.m y))),(.val (.bool (AtV.hm y))),(.vec 2 (n2) (.tail 0 (List.length n2)))])))∧
 True))))∧
 Q (.tup [(.agg [(.vec 2 (w) .none),(.val (.int .i64 (AtV.o y))),(.vec 1 (iV (AtV.p y)) .none),(.val (.int .u32 (AtV.h y))),(.val (.int .i64 (AtV.m y))),(.val (.bool (AtV.hm y))),(.vec 2 (n2) (.tail 0 (List.length n2)))]),(.val (.bool (decide (qz≤(4077:Int)))))]) ⟨[(.cells [(.vec 2 (w) .none),(.val (.int .i64 (AtV.o y))),(.vec 1 (iV (AtV.p y)) .none),(.val (.int .u32 (AtV.h y))),(.val (.int .i64 (AtV.m y))),(.val (.bool (AtV.hm y))),(.vec 2 (n2) (.tail 0 (List.length n2)))]),(.cells (az a z y false)),(.cells [(.vec 2 (w) .none),(.val (.int .i64 (AtV.o y))),(.vec 1 (iV (AtV.p y)) .none),(.val (.int .u32 (AtV.h y))),(.val (.int .i64 (AtV.m y))),(.val (.bool (AtV.hm y))),(.vec 2 (n2) (.tail 0 (List.length n2)))])], [((List.length n2),(2,false))]⟩))))
 else Q (.tup [(.agg [(.vec 2 (w) .none),(.val (.int .i64 (AtV.o y))),(.vec 1 (iV (AtV.p y)) .none),(.val (.int .u32 (AtV.h y))),(.val (.int .i64 (AtV.m y))),(.val (.bool (AtV.hm y))),(.vec 2 (n2) (.tail 0 (List.length n2)))]),(.val (.bool false))]) ⟨[(.cells [(.vec 2 (w) .none),(.val (.int .i64 (AtV.o y))),(.vec 1 (iV (AtV.p y)) .none),(.val (.int .u32 (AtV.h y))),(.val (.int .i64 (AtV.m y))),(.val (.bool (AtV.hm y))),(.vec 2 (n2) (.tail 0 (List.length n2)))]),(.cells (az a z y false)),(.cells [(.vec 2 (w) .none),(.val (.int .i64 (AtV.o y))),(.vec 1 (iV (AtV.p y)) .none),(.val (.int .u32 (AtV.h y))),(.val (.int .i64 (AtV.m y))),(.val (.bool (AtV.hm y))),(.vec 2 (n2) (.tail 0 (List.length n2)))])], [((List.length n2),(2,false))]⟩))))):=by kernel_rfl
theorem Mq (O L:Bs) (Q:TV→VT→Prop):aq Tryz.prog ae aR (aA [(999998, .dead,none)]) 300 (Oz O L (am Tryz.prog en 0)) 0 en [.vec 8 L .none] ⟨[], []⟩ Q=
 ((am Tryz.prog en (0:Nat)=am Tryz.prog en (0:Nat))∧
 (((@Eq (Option Nat) .none .none)∧
 ((@Eq (Nat) 0 0)∧
 ((@Eq (List Nat) [] [])∧
 (((@Eq (Option TV) (.some (.val (.slice .none 0 0))) (.some (.val (.slice .none 0 0))))∧
 True)∧
 ((@Eq (VT) ⟨[], [(0,(8,true))]⟩ ⟨[], [(0,(8,true))]⟩)∧
 ((@Eq (Bool) true true)∧
 (@Eq (List TV) [(.vec 8 [] .none),(.vec 8 (L) .none),(.val (.int .i64 ((↑(List.length L):Int)))),(.val (.int .i64 0))] [(.vec 8 [] .none),(.vec 8 (L) .none),(.val (.int .i64 ((↑(List.length L):Int)))),(.val (.int .i64 0))])))))))∧
 Q (.vec 8 (O) .none) ⟨[], [(0,(8,true))]⟩)):=by kernel_rfl
theorem pO (O L:Bs) (a n b m:Int) (x y:AtV) (g k ok:Bool) (j p:Nat) (Q:Exit→List TV→VT→List Nat→Nat→Prop):vx Tryz.prog ae (aw [(tZ,rf ok),(xJ,t8)]) (jU 60 (aA [(999999, .dead,none),(999998, .dead,none),(12, .elt (az a n x g),none),(36, .vec 8 (O.drop p) .none,none),(42, .elt (az b m y k),none),(50, .vec 8 ((O.drop p).drop 1) .none,none),(54, .vec 8 (O.take p) .none,none),(55, .vec 8 (O.take p) (.tail 1 (O.take p).length),some fun T=>{T with tails:= [(0,8,true),((O.take p).length,8,false)]}),(58, .vec 8 (O.take p++ [az a n x g]) (.tail 1 ((O.take p).length+1)),some fun T=>{T with tails:= [(0,8,true),((O.take p).length+1,8,false)]})])) 300 (Mf O L a n x g j p (am Tryz.prog en 2)) none 0 (bd Tryz.prog en 0) (aj 63 rj (iL O L j)) nt [] (bA rj Q)=
 (bif decide ((↑j:Int)<(↑(List.length L):Int))
 then (ax Tryz.prog (fun _=> .none) (.indexAddr 29 (.tmp 8) (.tmp 10)) [(8,(.vec 8 (L) .none)),(10,(.val (.int .i64 ((↑j:Int)))))] (.elt (az a n x g))∧
 (vL (az a n x g) (ok)∧
 (bif !ok
 then Q .normal [(.vec 8 (O) .none),(.vec 8 (L) .none),(.val (.int .i64 ((↑(List.length L):Int)))),(.val (.int .i64 (IntKind.wrap IntKind.i64 ((↑j:Int)+(1:Int)))))] ⟨[(.cells (az a n x g))], [(0,(8,true))]⟩ [] 63
 else ((am Tryz.prog en (2:Nat)=am Tryz.prog en (2:Nat))∧
 (((@Eq (Option Nat) .none .none)∧
 ((@Eq (Nat) 0 0)∧
 ((@Eq (List Nat) [] [])∧
 (True  ∧
 ((@Eq (VT) ⟨[(.cells (az a n x g))], [(0,(8,true))]⟩ ⟨[(.cells (az a n x g))], [(0,(8,true))]⟩)∧
 ((@Eq (Bool) true true)∧
 (@Eq (List TV) [(.vec 8 (O) .none),(.ptr 0 0),(.val (.int .i64 0)),(.vec 8 (L) .none),(.val (.int .i64 ((↑(List.length L):Int)))),(.val (.int .i64 ((↑j:Int))))] [(.vec 8 (O) .none),(.ptr 0 0),(.val (.int .i64 0)),(.vec 8 (L) .none),(.val (.int .i64 ((↑(List.length L):Int)))),(.val (.int .i64 ((↑j:Int))))])))))))∧
 (ax Tryz.prog (fun _=> .none) (.slice 29 (.tmp 34) (.some (.tmp 35)) .none .none) [(34,(.vec 8 (O) .none)),(35,(.val (.int .i64 ((↑p:Int)))))] (.vec 8 (List.drop p O) .none)∧
 (bif decide ((↑(List.length (List.drop p O)):Int)>(0:Int))
 then (ax Tryz.prog (fun _=> .none) (.indexAddr 29 (.tmp 41) (.const (.int .i64 0))) [(41,(.vec 8 (List.drop p O) .none))] (.elt (az b m y k))∧
 (bif aG BinOp.eql (ar ((fun vs=>Value.agg (List.toArray vs)) ((fun x=>Value.int IntKind.u32 b::x) ((fun x=>Value.int IntKind.i64 m::x) []))) ((fun vs=>Value.agg (List.toArray vs)) ((fun x=>Value.int IntKind.u32 a::x) ((fun x=>Value.int IntKind.i64 n::x) []))))
 then (ax Tryz.prog (fun _=> .none) (.slice 29 (.tmp 49) (.some (.const (.int .i64 1))) .none .none) [(49,(.vec 8 (List.drop p O) .none))] (.vec 8 (List.drop (1:Nat) (List.drop p O)) .none)∧
 (ax Tryz.prog (fun _=> .none) (.slice 29 (.tmp 52) .none (.some (.tmp 53)) .none) [(52,(.vec 8 (O) .none)),(53,(.val (.int .i64 ((↑p:Int)))))] (.vec 8 (List.take p O) .none)∧
 (aB Tryz.prog (fun _=> .none) 0 ⟨[(.cells (az a n x g))], [(0,(8,true))]⟩ (.call ⟨(.builtin .append), #[(.tmp 51),(.tmp 54)], #[29,29]⟩) [(51,(.vec 8 [] .full)),(54,(.vec 8 (List.take p O) .none))] (.vec 8 (List.take p O) (.tail 1 (List.length (List.take p O)))) ⟨[(.cells (az a n x g))], [(0,(8,true)),((List.length (List.take p O)),(8,false))]⟩∧
 (((@Eq (Option TV) (.some (.agg (az a n x g))) (.some (.agg (az a n x g))))∧
 True)∧
 (aB Tryz.prog (fun _=> .none) 0 ⟨[(.cells (az a n x g))], [(0,(8,true)),((List.length (List.take p O)),(8,false))]⟩ (.call ⟨(.builtin .append), #[(.tmp 55),(.tmp 57)], #[29,29]⟩) [(55,(.vec 8 (List.take p O) (.tail 1 (List.length (List.take p O))))),(57,(.vec 8 [(az a n x g)] .full))] (.vec 8 (List.take p O++ [az a n x g]) (.tail 1 (List.length (List.take p O)+(1:Nat)))) ⟨[(.cells (az a n x g))], [(0,(8,true)),((List.length (List.take p O)+(1:Nat)),(8,false))]⟩∧
 (aB Tryz.prog (fun _=> .none) 0 ⟨[(.cells (az a n x g))], [(0,(8,true)),((List.length (List.take p O)+(1:Nat)),(8,false))]⟩ (.call ⟨(.builtin .append), #[(.tmp 58),(.tmp 59)], #[29,29]⟩) [(58,(.vec 8 (List.take p O++ [az a n x g]) (.tail 1 (List.length (List.take p O)+(1:Nat))))),(59,(.vec 8 (List.drop (1:Nat) (List.drop p O)) .none))] (.vec 8 (List.take p O++ [az a n x g]++List.drop (1:Nat) (List.drop p O)) (.tail 1 (List.length (List.take p O++ [az a n x g]++List.drop (1:Nat) (List.drop p O))))) ⟨[(.cells (az a n x g))], [(0,(8,true)),((List.length (List.take p O++ [az a n x g]++List.drop (1:Nat) (List.drop p O))),(8,false))]⟩∧
 Q .normal [(.vec 8 (List.take p O++ [az a n x g]++List.drop (1:Nat) (List.drop p O)) (.tail 1 (List.length (List.take p O++ [az a n x g]++List.drop (1:Nat) (List.drop p O))))),(.vec 8 (L) .none),(.val (.int .i64 ((↑(List.length L):Int)))),(.val (.int .i64 (IntKind.wrap IntKind.i64 ((↑j:Int)+(1:Int)))))] ⟨[(.cells (az a n x g))], [(0,(8,true)),((List.length (List.take p O++ [az a n x g]++List.drop (1:Nat) (List.drop p O))),(8,false))]⟩ [] 63))))))
 else (ax Tryz.prog (fun _=> .none) (.slice 29 (.tmp 52) .none (.some (.tmp 53)) .none) [(52,(.vec 8 (O) .none)),(53,(.val (.int .i64 ((↑p:Int)))))] (.vec 8 (List.take p O) .none)∧
 (aB Tryz.prog (fun _=> .none) 0 ⟨[(.cells (az a n x g))], [(0,(8,true))]⟩ (.call ⟨(.builtin .append), #[(.tmp 51),(.tmp 54)], #[29,29]⟩) [(51,(.vec 8 [] .full)),(54,(.vec 8 (List.take p O) .none))] (.vec 8 (List.take p O) (.tail 1 (List.length (List.take p O)))) ⟨[(.cells (az a n x g))], [(0,(8,true)),((List.length (List.take p O)),(8,false))]⟩∧
 (((@Eq (Option TV) (.some (.agg (az a n x g))) (.some (.agg (az a n x g))))∧
 True)∧
 (aB Tryz.prog (fun _=> .none) 0 ⟨[(.cells (az a n x g))], [(0,(8,true)),((List.length (List.take p O)),(8,false))]⟩ (.call ⟨(.builtin .append), #[(.tmp 55),(.tmp 57)], #[29,29]⟩) [(55,(.vec 8 (List.take p O) (.tail 1 (List.length (List.take p O))))),(57,(.vec 8 [(az a n x g)] .full))] (.vec 8 (List.take p O++ [az a n x g]) (.tail 1 (List.length (List.take p O)+(1:Nat)))) ⟨[(.cells (az a n x g))], [(0,(8,true)),((List.length (List.take p O)+(1:Nat)),(8,false))]⟩∧
 (aB Tryz.prog (fun _=> .none) 0 ⟨[(.cells (az a n x g))], [(0,(8,true)),((List.length (List.take p O)+(1:Nat)),(8,false))]⟩ (.call ⟨(.builtin .append), #[(.tmp 58),(.tmp 59)], #[29,29]⟩) [(58,(.vec 8 (List.take p O++ [az a n x g]) (.tail 1 (List.length (List.take p O)+(1:Nat))))),(59,(.vec 8 (List.drop p O) .none))] (.vec 8 (List.take p O++ [az a n x g]++List.drop p O) (.tail 1 (List.length (List.take p O++ [az a n x g]++List.drop p O)))) ⟨[(.cells (az a n x g))], [(0,(8,true)),((List.length (List.take p O++ [az a n x g]++List.drop p O)),(8,false))]⟩∧
 Q .normal [(.vec 8 (List.take p O++ [az a n x g]++List.drop p O) (.tail 1 (List.length (List.take p O++ [az a n x g]++List.drop p O)))),(.vec 8 (L) .none),(.val (.int .i64 ((↑(List.length L):Int)))),(.val (.int .i64 (IntKind.wrap IntKind.i64 ((↑j:Int)+(1:Int)))))] ⟨[(.cells (az a n x g))], [(0,(8,true)),((List.length (List.take p O++ [az a n x g]++List.drop p O)),(8,false))]⟩ [] 63)))))))
 else (ax Tryz.prog (fun _=> .none) (.slice 29 (.tmp 52) .none (.some (.tmp 53)) .none) [(52,(.vec 8 (O) .none)),(53,(.val (.int .i64 ((↑p:Int)))))] (.vec 8 (List.take p O) .none)∧
 (aB Tryz.prog (fun _=> .none) 0 ⟨[(.cells (az a n x g))], [(0,(8,true))]⟩ (.call ⟨(.builtin .append), #[(.tmp 51),(.tmp 54)], #[29,29]⟩) [(51,(.vec 8 [] .full)),(54,(.vec 8 (List.take p O) .none))] (.vec 8 (List.take p O) (.tail 1 (List.length (List.take p O)))) ⟨[(.cells (az a n x g))], [(0,(8,true)),((List.length (List.take p O)),(8,false))]⟩∧
 (((@Eq (Option TV) (.some (.agg (az a n x g))) (.some (.agg (az a n x g))))∧
 True)∧
 (aB Tryz.prog (fun _=> .none) 0 ⟨[(.cells (az a n x g))], [(0,(8,true)),((List.length (List.take p O)),(8,false))]⟩ (.call ⟨(.builtin .append), #[(.tmp 55),(.tmp 57)], #[29,29]⟩) [(55,(.vec 8 (List.take p O) (.tail 1 (List.length (List.take p O))))),(57,(.vec 8 [(az a n x g)] .full))] (.vec 8 (List.take p O++ [az a n x g]) (.tail 1 (List.length (List.take p O)+(1:Nat)))) ⟨[(.cells (az a n x g))], [(0,(8,true)),((List.length (List.take p O)+(1:Nat)),(8,false))]⟩∧
 (aB Tryz.prog (fun _=> .none) 0 ⟨[(.cells (az a n x g))], [(0,(8,true)),((List.length (List.take p O)+(1:Nat)),(8,false))]⟩ (.call ⟨(.builtin .append), #[(.tmp 58),(.tmp 59)], #[29,29]⟩) [(58,(.vec 8 (List.take p O++ [az a n x g]) (.tail 1 (List.length (List.take p O)+(1:Nat))))),(59,(.vec 8 (List.drop p O) .none))] (.vec 8 (List.take p O++ [az a n x g]++List.drop p O) (.tail 1 (List.length (List.take p O++ [az a n x g]++List.drop p O)))) ⟨[(.cells (az a n x g))], [(0,(8,true)),((List.length (List.take p O++ [az a n x g]++List.drop p O)),(8,false))]⟩∧
 Q .normal [(.vec 8 (List.take p O++ [az a n x g]++List.drop p O) (.tail 1 (List.length (List.take p O++ [az a n x g]++List.drop p O)))),(.vec 8 (L) .none),(.val (.int .i64 ((↑(List.length L):Int)))),(.val (.int .i64 (IntKind.wrap IntKind.i64 ((↑j:Int)+(1:Int)))))] ⟨[(.cells (az a n x g))], [(0,(8,true)),((List.length (List.take p O++ [az a n x g]++List.drop p O)),(8,false))]⟩ [] 63))))))))))))
 else Q (.exit 0) [(.vec 8 (O) .none),(.vec 8 (L) .none),(.val (.int .i64 ((↑(List.length L):Int)))),(.val (.int .i64 ((↑j:Int))))] ⟨[], [(0,(8,true))]⟩ [] 63):=by kernel_rfl
theorem zG (O L:Bs) (a n b m:Int) (x y:AtV) (g k:Bool) (j i:Nat) (Q:Exit→List TV→VT→List Nat→Nat→Prop):vx Tryz.prog ae (aw [(xJ,t8)]) (aA [(999998, .dead,none),(24, .elt (az b m y k),none)]) 300 aD none 0 (bd Tryz.prog en 2) (aj 63 rl (rm O L j i)) (rp a n x g) [] (bA rl Q)=
 (bif decide ((↑i:Int)<(↑(List.length O):Int))
 then (ax Tryz.prog (fun _=> .none) (.indexAddr 29 (.tmp 22) (.tmp 23)) [(22,(.vec 8 (O) .none)),(23,(.val (.int .i64 ((↑i:Int)))))] (.elt (az b m y k))∧
 (bif decide (ez b m a n<(0:Int))
 then Q .normal [(.vec 8 (O) .none),(.ptr 0 0),(.val (.int .i64 (IntKind.wrap IntKind.i64 ((↑i:Int)+(1:Int))))),(.vec 8 (L) .none),(.val (.int .i64 ((↑(List.length L):Int)))),(.val (.int .i64 ((↑j:Int))))] ⟨[(.cells (az a n x g))], [(0,(8,true))]⟩ [] 63
 else Q (.exit 2) [(.vec 8 (O) .none),(.ptr 0 0),(.val (.int .i64 ((↑i:Int)))),(.vec 8 (L) .none),(.val (.int .i64 ((↑(List.length L):Int)))),(.val (.int .i64 ((↑j:Int))))] ⟨[(.cells (az a n x g))], [(0,(8,true))]⟩ [] 63))
 else Q (.exit 2) [(.vec 8 (O) .none),(.ptr 0 0),(.val (.int .i64 ((↑i:Int)))),(.vec 8 (L) .none),(.val (.int .i64 ((↑(List.length L):Int)))),(.val (.int .i64 ((↑j:Int))))] ⟨[(.cells (az a n x g))], [(0,(8,true))]⟩ [] 63):=by kernel_rfl
theorem Mr (l U:Bs) (Q:TV→VT→Prop):aq Tryz.prog ae aR (aA [(999998, .dead,none)]) 300 (Ox l U (am Tryz.prog dn 0)) 0 dn [.vec 7 U .none] ⟨[], []⟩ Q=
 ((am Tryz.prog dn (0:Nat)=am Tryz.prog dn (0:Nat))∧
 (((@Eq (Option Nat) .none .none)∧
 ((@Eq (Nat) 0 0)∧
 ((@Eq (List Nat) [] [])∧
 (((@Eq (Option TV) (.some (.val (.slice .none 0 0))) (.some (.val (.slice .none 0 0))))∧
 True)∧
 ((@Eq (VT) ⟨[], [(0,(8,true))]⟩ ⟨[], [(0,(8,true))]⟩)∧
 ((@Eq (Bool) true true)∧
 (@Eq (List TV) [(.vec 8 [] (.tail 0 0)),(.vec 7 (U) .none),(.val (.int .i64 ((↑(List.length U):Int)))),(.val (.int .i64 0))] [(.vec 8 [] (.tail 0 0)),(.vec 7 (U) .none),(.val (.int .i64 ((↑(List.length U):Int)))),(.val (.int .i64 0))])))))))∧
 Q (.vec 8 (l) (.tail 0 (List.length l))) ⟨[], [((List.length l),(8,true))]⟩)):=by kernel_rfl
theorem zH (l l1 l2 U w n:Bs) (x:AtV) (j:Nat) (Q:Exit→List TV→VT→List Nat→Nat→Prop):vx Tryz.prog ae aR (aA [(999998, .dead,none),(14, .elt (aV w x n),none)]) 300 (Oy l l1 l2 U j w x n (am Tryz.prog dn 2) (am Tryz.prog dn 4)) none 0 (bd Tryz.prog dn 0) (aj 46 ns (jn l U j)) (eS l.length) [] (bA ns Q)=
 (bif decide ((↑j:Int)<(↑(List.length U):Int))
 then (ax Tryz.prog (fun _=> .none) (.indexAddr 27 (.tmp 10) (.tmp 12)) [(10,(.vec 7 (U) .none)),(12,(.val (.int .i64 ((↑j:Int)))))] (.elt (aV w x n))∧
 ((am Tryz.prog dn (2:Nat)=am Tryz.prog dn (2:Nat))∧
 (((@Eq (Option Nat) .none .none)∧
 ((@Eq (Nat) 0 0)∧
 ((@Eq (List Nat) [] [])∧
 (True  ∧
 ((@Eq (VT) ⟨[(.cells (aV w x n))], [((List.length l),(8,true))]⟩ ⟨[(.cells (aV w x n))], [((List.length l),(8,true))]⟩)∧
 ((@Eq (Bool) true true)∧
 (@Eq (List TV) [(.vec 8 (l) (.tail 0 (List.length l))),(.ptr 0 0),(.vec 7 (U) .none),(.val (.int .i64 ((↑(List.length U):Int)))),(.val (.int .i64 ((↑j:Int)))),(.vec 2 (w) .none),(.val (.int .i64 ((↑(List.length w):Int)))),(.val (.int .i64 0))] [(.vec 8 (l) (.tail 0 (List.length l))),(.ptr 0 0),(.vec 7 (U) .none),(.val (.int .i64 ((↑(List.length U):Int)))),(.val (.int .i64 ((↑j:Int)))),(.vec 2 (w) .none),(.val (.int .i64 ((↑(List.length w):Int)))),(.val (.int .i64 0))])))))))∧
 ((am Tryz.prog dn (4:Nat)=am Tryz.prog dn (4:Nat))∧
 (((@Eq (Option Nat) .none .none)∧
 ((@Eq (Nat) 0 0)∧
 ((@Eq (List Nat) [] [])∧
 (True  ∧
 ((@Eq (VT) ⟨[(.cells (aV w x n))], [((List.length l1),(8,true))]⟩ ⟨[(.cells (aV w x n))], [((List.length l1),(8,true))]⟩)∧
 ((@Eq (Bool) true true)∧
 (@Eq (List TV) [(.vec 8 (l1) (.tail 0 (List.length l1))),(.ptr 0 0),(.vec 7 (U) .none),(.val (.int .i64 ((↑(List.length U):Int)))),(.val (.int .i64 ((↑j:Int)))),(.vec 2 (n) .none),(.val (.int .i64 ((↑(List.length n):Int)))),(.val (.int .i64 0))] [(.vec 8 (l1) (.tail 0 (List.length l1))),(.ptr 0 0),(.vec 7 (U) .none),(.val (.int .i64 ((↑(List.length U):Int)))),(.val (.int .i64 ((↑j:Int)))),(.vec 2 (n) .none),(.val (.int .i64 ((↑(List.length n):Int)))),(.val (.int .i64 0))])))))))∧
 Q .normal [(.vec 8 (l2) (.tail 0 (List.length l2))),(.vec 7 (U) .none),(.val (.int .i64 ((↑(List.length U):Int)))),(.val (.int .i64 (IntKind.wrap IntKind.i64 ((↑j:Int)+(1:Int)))))] ⟨[(.cells (aV w x n))], [((List.length l2),(8,true))]⟩ [] 46)))))
 else Q (.exit 0) [(.vec 8 (l) (.tail 0 (List.length l))),(.vec 7 (U) .none),(.val (.int .i64 ((↑(List.length U):Int)))),(.val (.int .i64 ((↑j:Int))))] ⟨[], [((List.length l),(8,true))]⟩ [] 46):=by kernel_rfl
theorem zI (l l2 U w n v:Bs) (x:AtV) (a z:Int) (j i k2:Nat) (tl2:eo) (Q:Exit→List TV→VT→List Nat→Nat→Prop):vx Tryz.prog ae aR (aA [(999998, .dead,none),(21, .elt (cj (a,z)),none),(27, .vec 8 l2 (.tail 0 k2),some fun T=>{T with tails:=tl2})]) 300 aD none 0 (bd Tryz.prog dn 2) (aj 46 lV (o8 l U j v i)) (dP w x n l.length) [] (bA lV Q)=
 (bif decide ((↑i:Int)<(↑(List.length v):Int))
 then (ax Tryz.prog (fun _=> .none) (.indexAddr 32 (.tmp 17) (.tmp 19)) [(17,(.vec 2 (v) .none)),(19,(.val (.int .i64 ((↑i:Int)))))] (.elt [(.val (.int .u32 (Prod.fst (a,z)))),(.val (.int .i64 (Prod.snd (a,z))))])∧
 (aB Tryz.prog (fun _=> .none) 0 ⟨[(.cells (aV w x n)),(.cells [(.val (.int .u32 (Prod.fst (a,z)))),(.val (.int .i64 (Prod.snd (a,z))))])], [((List.length l),(8,true))]⟩ (.call ⟨(.builtin .append), #[(.tmp 23),(.tmp 26)], #[29,29]⟩) [(23,(.vec 8 (l) (.tail 0 (List.length l)))),(26,(.vec 8 [[(.val (.int .u32 (Prod.fst (a,z)))),(.val (.int .i64 (Prod.snd (a,z)))),(.val (.int .i64 0)),(.val (.slice .none 0 0)),(.val (.int .u32 0)),(.val (.int .i64 0)),(.val (.bool false)),(.val (.bool true))]] .full))] (.vec 8 (l2) (.tail 0 (k2))) ⟨[(.cells (aV w x n)),(.cells [(.val (.int .u32 (Prod.fst (a,z)))),(.val (.int .i64 (Prod.snd (a,z))))])],(tl2)⟩∧
 Q .normal [(.vec 8 (l2) (.tail 0 (k2))),(.ptr 0 0),(.vec 7 (U) .none),(.val (.int .i64 ((↑(List.length U):Int)))),(.val (.int .i64 ((↑j:Int)))),(.vec 2 (v) .none),(.val (.int .i64 ((↑(List.length v):Int)))),(.val (.int .i64 (IntKind.wrap IntKind.i64 ((↑i:Int)+(1:Int)))))] ⟨[(.cells (aV w x n)),(.cells [(.val (.int .u32 (Prod.fst (a,z)))),(.val (.int .i64 (Prod.snd (a,z))))])],(tl2)⟩ [] 46))
 else Q (.exit 2) [(.vec 8 (l) (.tail 0 (List.length l))),(.ptr 0 0),(.vec 7 (U) .none),(.val (.int .i64 ((↑(List.length U):Int)))),(.val (.int .i64 ((↑j:Int)))),(.vec 2 (v) .none),(.val (.int .i64 ((↑(List.length v):Int)))),(.val (.int .i64 ((↑i:Int))))] ⟨[(.cells (aV w x n))], [((List.length l),(8,true))]⟩ [] 46):=by kernel_rfl
theorem zJ (l l2 U w n v:Bs) (x:AtV) (a z:Int) (j i k2:Nat) (tl2:eo) (Q:Exit→List TV→VT→List Nat→Nat→Prop):vx Tryz.prog ae aR (aA [(999998, .dead,none),(34, .elt (cj (a,z)),none),(42, .vec 8 l2 (.tail 0 k2),some fun T=>{T with tails:=tl2})]) 300 aD none 0 (bd Tryz.prog dn 4) (aj 46 lW (o8 l U j v i)) (dP w x n l.length) [] (bA lW Q)=
 (bif decide ((↑i:Int)<(↑(List.length v):Int))
 then (ax Tryz.prog (fun _=> .none) (.indexAddr 32 (.tmp 30) (.tmp 32)) [(30,(.vec 2 (v) .none)),(32,(.val (.int .i64 ((↑i:Int)))))] (.elt [(.val (.int .u32 (Prod.fst (a,z)))),(.val (.int .i64 (Prod.snd (a,z))))])∧
 (aB Tryz.prog (fun _=> .none) 0 ⟨[(.cells (aV w x n)),(.cells [(.val (.int .u32 (Prod.fst (a,z)))),(.val (.int .i64 (Prod.snd (a,z))))])], [((List.length l),(8,true))]⟩ (.call ⟨(.builtin .append), #[(.tmp 36),(.tmp 41)], #[29,29]⟩) [(36,(.vec 8 (l) (.tail 0 (List.length l)))),(41,(.vec 8 [[(.val (.int .u32 (Prod.fst (a,z)))),(.val (.int .i64 (Prod.snd (a,z)))),(.val (.int .i64 (AtV.o x))),(.vec 1 (iV (AtV.p x)) .none),(.val (.int .u32 (AtV.h x))),(.val (.int .i64 (AtV.m x))),(.val (.bool (AtV.hm x))),(.val (.bool false))]] .full))] (.vec 8 (l2) (.tail 0 (k2))) ⟨[(.cells (aV w x n)),(.cells [(.val (.int .u32 (Prod.fst (a,z)))),(.val (.int .i64 (Prod.snd (a,z))))])],(tl2)⟩∧
 Q .normal [(.vec 8 (l2) (.tail 0 (k2))),(.ptr 0 0),(.vec 7 (U) .none),(.val (.int .i64 ((↑(List.length U):Int)))),(.val (.int .i64 ((↑j:Int)))),(.vec 2 (v) .none),(.val (.int .i64 ((↑(List.length v):Int)))),(.val (.int .i64 (IntKind.wrap IntKind.i64 ((↑i:Int)+(1:Int)))))] ⟨[(.cells (aV w x n)),(.cells [(.val (.int .u32 (Prod.fst (a,z)))),(.val (.int .i64 (Prod.snd (a,z))))])],(tl2)⟩ [] 46))
 else Q (.exit 4) [(.vec 8 (l) (.tail 0 (List.length l))),(.ptr 0 0),(.vec 7 (U) .none),(.val (.int .i64 ((↑(List.length U):Int)))),(.val (.int .i64 ((↑j:Int)))),(.vec 2 (v) .none),(.val (.int .i64 ((↑(List.length v):Int)))),(.val (.int .i64 ((↑i:Int))))] ⟨[(.cells (aV w x n))], [((List.length l),(8,true))]⟩ [] 46):=by kernel_rfl
theorem Ms (L M:Bs) (b:Bool) (Q:TV→VT→Prop):aq Tryz.prog ae aR (aA [(999998, .dead,none)]) 300 (Ou L M b (am Tryz.prog gj 0)) 0 gj [.vec 8 L .none, .vec 8 M .none] ⟨[], []⟩ Q=
 (bif aG BinOp.neq (ar (Value.int IntKind.i64 (↑(List.length L):Int)) (Value.int IntKind.i64 (↑(List.length M):Int)))
 then Q (.val (.bool false)) ⟨[], []⟩
 else ((am Tryz.prog gj (0:Nat)=am Tryz.prog gj (0:Nat))∧
 (((@Eq (Option Nat) .none .none)∧
 ((@Eq (Nat) 0 0)∧
 ((@Eq (List Nat) [] [])∧
 (True  ∧
 ((@Eq (VT) ⟨[], []⟩ ⟨[], []⟩)∧
 ((@Eq (Bool) true true)∧
 (@Eq (List TV) [(.val (.bool false)),(.vec 8 (L) .none),(.vec 8 (M) .none),(.val (.int .i64 ((↑(List.length L):Int)))),(.val (.int .i64 0))] [(.val (.bool false)),(.vec 8 (L) .none),(.vec 8 (M) .none),(.val (.int .i64 ((↑(List.length L):Int)))),(.val (.int .i64 0))])))))))∧
 (bif b
 then Q (.val (.bool true)) ⟨[], []⟩
 else (∀jj:Int,(∀oo:List VO,Q (.val (.bool false)) ⟨(oo), []⟩)))))):=by kernel_rfl
theorem IV (L M:Bs) (Q:TV→VT→Prop):aq Tryz.prog ae aR (aA [(999998, .dead,none)]) 300 (FV (am Tryz.prog gj 0)) 0 gj [.vec 8 L .none, .vec 8 M .none] ⟨[], []⟩ Q=
 (bif aG BinOp.neq (ar (Value.int IntKind.i64 (↑(List.length L):Int)) (Value.int IntKind.i64 (↑(List.length M):Int)))
 then Q (.val (.bool false)) ⟨[], []⟩
 else ((am Tryz.prog gj (0:Nat)=am Tryz.prog gj (0:Nat))∧
 False)):=by kernel_rfl
theorem zK (L M:Bs) (a n b m:Int) (x y:AtV) (g k ok:Bool) (j:Nat) (Q:Exit→List TV→VT→List Nat→Nat→Prop):vx Tryz.prog ae (aw [(gi,il ok)]) (aA [(999998, .dead,none),(18, .elt (az a n x g),none),(30, .elt (az a n x g),none),(43, .elt (az a n x g),none),(23, .elt (az b m y k),none),(35, .elt (az b m y k),none),(48, .elt (az b m y k),none)]) 300 aD none 0 (bd Tryz.prog gj 0) (aj 55 nr (kO L M j)) ⟨[], []⟩ [] (bA nr Q)=
 (bif decide ((↑j:Int)<(↑(List.length L):Int))
 then (ax Tryz.prog (fun _=> .none) (.indexAddr 29 (.tmp 16) (.tmp 17)) [(16,(.vec 8 (L) .none)),(17,(.val (.int .i64 ((↑j:Int)))))] (.elt (az a n x g))∧
 (ax Tryz.prog (fun _=> .none) (.indexAddr 29 (.tmp 21) (.tmp 22)) [(21,(.vec 8 (M) .none)),(22,(.val (.int .i64 ((↑j:Int)))))] (.elt (az b m y k))∧
 (bif aG BinOp.neq (ar ((fun vs=>Value.agg (List.toArray vs)) ((fun x=>Value.int IntKind.u32 a::x) ((fun x=>Value.int IntKind.i64 n::x) []))) ((fun vs=>Value.agg (List.toArray vs)) ((fun x=>Value.int IntKind.u32 b::x) ((fun x=>Value.int IntKind.i64 m::x) []))))
 then Q .ret [(.val (.bool false)),(.vec 8 (L) .none),(.vec 8 (M) .none),(.val (.int .i64 ((↑(List.length L):Int)))),(.val (.int .i64 ((↑j:Int))))] ⟨[], []⟩ [] 55
 else (ax Tryz.prog (fun _=> .none) (.indexAddr 29 (.tmp 28) (.tmp 29)) [(28,(.vec 8 (L) .none)),(29,(.val (.int .i64 ((↑j:Int)))))] (.elt (az a n x g))∧
 (ax Tryz.prog (fun _=> .none) (.indexAddr 29 (.tmp 33) (.tmp 34)) [(33,(.vec 8 (M) .none)),(34,(.val (.int .i64 ((↑j:Int)))))] (.elt (az b m y k))∧
 (bif aG BinOp.neq (ar (Value.bool g) (Value.bool k))
 then Q .ret [(.val (.bool false)),(.vec 8 (L) .none),(.vec 8 (M) .none),(.val (.int .i64 ((↑(List.length L):Int)))),(.val (.int .i64 ((↑j:Int))))] ⟨[], []⟩ [] 55
 else (ax Tryz.prog (fun _=> .none) (.indexAddr 29 (.tmp 41) (.tmp 42)) [(41,(.vec 8 (L) .none)),(42,(.val (.int .i64 ((↑j:Int)))))] (.elt (az a n x g))∧
 (ax Tryz.prog (fun _=> .none) (.indexAddr 29 (.tmp 46) (.tmp 47)) [(46,(.vec 8 (M) .none)),(47,(.val (.int .i64 ((↑j:Int)))))] (.elt (az b m y k))∧
 (jF (AtV.cells x) (AtV.cells y) (ok)∧
 (bif !ok
 then Q .ret [(.val (.bool false)),(.vec 8 (L) .none),(.vec 8 (M) .none),(.val (.int .i64 ((↑(List.length L):Int)))),(.val (.int .i64 ((↑j:Int))))] ⟨[], []⟩ [] 55
 else Q .normal [(.val (.bool false)),(.vec 8 (L) .none),(.vec 8 (M) .none),(.val (.int .i64 ((↑(List.length L):Int)))),(.val (.int .i64 (IntKind.wrap IntKind.i64 ((↑j:Int)+(1:Int)))))] ⟨[], []⟩ [] 55))))))))))
 else Q (.exit 0) [(.val (.bool false)),(.vec 8 (L) .none),(.vec 8 (M) .none),(.val (.int .i64 ((↑(List.length L):Int)))),(.val (.int .i64 ((↑j:Int))))] ⟨[], []⟩ [] 55):=by kernel_rfl
theorem Mt (L:Bs) (Q:TV→VT→Prop):aq Tryz.prog ae aR (aA [(999998, .dead,none)]) 300 (Ov L (am Tryz.prog ji 0)) 0 ji [.vec 8 L .none] ⟨[], []⟩ Q=
 ((am Tryz.prog ji (0:Nat)=am Tryz.prog ji (0:Nat))∧
 (((@Eq (Option Nat) .none .none)∧
 ((@Eq (Nat) 0 0)∧
 ((@Eq (List Nat) [] [])∧
 (((@Eq (Option TV) (.some (.val (.slice .none 0 0))) (.some (.val (.slice .none 0 0))))∧
 True)∧
 ((@Eq (VT) ⟨[], [(0,(8,true))]⟩ ⟨[], [(0,(8,true))]⟩)∧
 ((@Eq (Bool) true true)∧
 (@Eq (List TV) [(.vec 8 [] (.tail 0 0)),(.vec 8 (L) .none),(.val (.int .i64 ((↑(List.length L):Int)))),(.val (.int .i64 0))] [(.vec 8 [] (.tail 0 0)),(.vec 8 (L) .none),(.val (.int .i64 ((↑(List.length L):Int)))),(.val (.int .i64 0))])))))))∧
 Q (.vec 8 (L) (.tail 0 (List.length L))) ⟨[], [((List.length L),(8,true))]⟩)):=by kernel_rfl
theorem zL (L o o2:Bs) (a n:Int) (x:AtV) (g:Bool) (j k2:Nat) (tl2:eo) (Q:Exit→List TV→VT→List Nat→Nat→Prop):vx Tryz.prog ae aR (aA [(999998, .dead,none),(10, .elt (az a n x g),none),(21, .vec 8 o2 (.tail 0 k2),some fun T=>{T with tails:=tl2})]) 300 aD none 0 (bd Tryz.prog ji 0) (aj 24 cR (kQ L o j)) (eS o.length) [] (bA cR Q)=
 (bif decide ((↑j:Int)<(↑(List.length L):Int))
 then (ax Tryz.prog (fun _=> .none) (.indexAddr 22 (.tmp 6) (.tmp 8)) [(6,(.vec 8 (L) .none)),(8,(.val (.int .i64 ((↑j:Int)))))] (.elt (az a n x g))∧
 (aB Tryz.prog (fun _=> .none) 0 ⟨[(.cells (az a n x g))], [((List.length o),(8,true))]⟩ (.call ⟨(.builtin .append), #[(.tmp 12),(.tmp 20)], #[29,29]⟩) [(12,(.vec 8 (o) (.tail 0 (List.length o)))),(20,(.vec 8 [(az a n x g)] .full))] (.vec 8 (o2) (.tail 0 (k2))) ⟨[(.cells (az a n x g))],(tl2)⟩∧
 Q .normal [(.vec 8 (o2) (.tail 0 (k2))),(.vec 8 (L) .none),(.val (.int .i64 ((↑(List.length L):Int)))),(.val (.int .i64 (IntKind.wrap IntKind.i64 ((↑j:Int)+(1:Int)))))] ⟨[(.cells (az a n x g))],(tl2)⟩ [] 24))
 else Q (.exit 0) [(.vec 8 (o) (.tail 0 (List.length o))),(.vec 8 (L) .none),(.val (.int .i64 ((↑(List.length L):Int)))),(.val (.int .i64 ((↑j:Int))))] ⟨[], [((List.length o),(8,true))]⟩ [] 24):=by kernel_rfl
theorem Mu (L:Bs) (Q:TV→VT→Prop):aq Tryz.prog ae aR (aA [(999998, .dead,none)]) 300 (Ow L (am Tryz.prog jk 0)) 0 jk [.vec 7 L .none] ⟨[], []⟩ Q=
 ((am Tryz.prog jk (0:Nat)=am Tryz.prog jk (0:Nat))∧
 (((@Eq (Option Nat) .none .none)∧
 ((@Eq (Nat) 0 0)∧
 ((@Eq (List Nat) [] [])∧
 (((@Eq (Option TV) (.some (.val (.slice .none 0 0))) (.some (.val (.slice .none 0 0))))∧
 True)∧
 ((@Eq (VT) ⟨[], [(0,(7,true))]⟩ ⟨[], [(0,(7,true))]⟩)∧
 ((@Eq (Bool) true true)∧
 (@Eq (List TV) [(.vec 7 [] (.tail 0 0)),(.vec 7 (L) .none),(.val (.int .i64 ((↑(List.length L):Int)))),(.val (.int .i64 0))] [(.vec 7 [] (.tail 0 0)),(.vec 7 (L) .none),(.val (.int .i64 ((↑(List.length L):Int)))),(.val (.int .i64 0))])))))))∧
 Q (.vec 7 (L) (.tail 0 (List.length L))) ⟨[], [((List.length L),(7,true))]⟩)):=by kernel_rfl
theorem zM (L o o2 w n:Bs) (x:AtV) (j k2:Nat) (tl2:eo) (Q:Exit→List TV→VT→List Nat→Nat→Prop):vx Tryz.prog ae aR (aA [(999998, .dead,none),(10, .elt (aV w x n),none),(21, .vec 7 o2 (.tail 0 k2),some fun T=>{T with tails:=tl2})]) 300 aD none 0 (bd Tryz.prog jk 0) (aj 24 cR (kR L o j)) (dB o.length) [] (bA cR Q)=
 (bif decide ((↑j:Int)<(↑(List.length L):Int))
 then (ax Tryz.prog (fun _=> .none) (.indexAddr 25 (.tmp 6) (.tmp 8)) [(6,(.vec 7 (L) .none)),(8,(.val (.int .i64 ((↑j:Int)))))] (.elt (aV w x n))∧
 (aB Tryz.prog (fun _=> .none) 0 ⟨[(.cells (aV w x n))], [((List.length o),(7,true))]⟩ (.call ⟨(.builtin .append), #[(.tmp 12),(.tmp 20)], #[27,27]⟩) [(12,(.vec 7 (o) (.tail 0 (List.length o)))),(20,(.vec 7 [(aV w x n)] .full))] (.vec 7 (o2) (.tail 0 (k2))) ⟨[(.cells (aV w x n))],(tl2)⟩∧
 Q .normal [(.vec 7 (o2) (.tail 0 (k2))),(.vec 7 (L) .none),(.val (.int .i64 ((↑(List.length L):Int)))),(.val (.int .i64 (IntKind.wrap IntKind.i64 ((↑j:Int)+(1:Int)))))] ⟨[(.cells (aV w x n))],(tl2)⟩ [] 24))
 else Q (.exit 0) [(.vec 7 (o) (.tail 0 (List.length o))),(.vec 7 (L) .none),(.val (.int .i64 ((↑(List.length L):Int)))),(.val (.int .i64 ((↑j:Int))))] ⟨[], [((List.length o),(7,true))]⟩ [] 24):=by kernel_rfl
theorem Mv (L r u:Bs) (Q:TV→VT→Prop):aq Tryz.prog ae (aw [(en,rq r)]) (aA [(999998, .dead,none)]) 300 (OA r u (am Tryz.prog cG 0)) 0 cG [.vec 8 L .none] ⟨[], []⟩ Q=
 (Bz (L) (r)∧
 ((am Tryz.prog cG (0:Nat)=am Tryz.prog cG (0:Nat))∧
 (((@Eq (Option Nat) .none .none)∧
 ((@Eq (Nat) 0 0)∧
 ((@Eq (List Nat) [] [])∧
 (((@Eq (Option TV) (.some (.val (.slice .none 0 0))) (.some (.val (.slice .none 0 0))))∧
 True)∧
 ((@Eq (VT) ⟨[], [(0,(7,true))]⟩ ⟨[], [(0,(7,true))]⟩)∧
 ((@Eq (Bool) true true)∧
 (@Eq (List TV) [(.vec 8 (r) .none),(.vec 7 [] (.tail 0 0))] [(.vec 8 (r) .none),(.vec 7 [] (.tail 0 0))])))))))∧
 Q (.vec 7 (u) (.tail 0 (List.length u))) ⟨[], [((List.length u),(7,true))]⟩))):=by kernel_rfl
theorem IW (l u u2 r w n:Bs) (x:AtV) (f:Int) (k2:Nat) (tl2:eo) (Q:Exit→List TV→VT→List Nat→Nat→Prop):vx Tryz.prog ae aR (aA [(999998, .dead,none),(117, .vec 7 u2 (.tail 0 k2),some fun T=>{T with tails:=tl2})]) 300 (Mg l u r w x n f (am Tryz.prog cG 2) (am Tryz.prog cG 4)) none 0 (bd Tryz.prog cG 0) (aj 120 nu (nv l u)) (dB u.length) [] (bA nu Q)=
 (bif decide ((↑(List.length l):Int)>(0:Int))
 then ((am Tryz.prog cG (2:Nat)=am Tryz.prog cG (2:Nat))∧
 (((@Eq (Option Nat) .none .none)∧
 ((@Eq (Nat) 0 0)∧
 ((@Eq (List Nat) [] [])∧
 (True  ∧
 ((@Eq (VT) ⟨[], [((List.length u),(7,true))]⟩ ⟨[], [((List.length u),(7,true))]⟩)∧
 ((@Eq (Bool) true true)∧
 (@Eq (List TV) [(.vec 8 (l) .none),(.vec 7 (u) (.tail 0 (List.length u))),(.val (.int .i64 0)),(.vec 8 (l) .none),(.val (.int .i64 ((↑(List.length l):Int)))),(.val (.int .i64 0))] [(.vec 8 (l) .none),(.vec 7 (u) (.tail 0 (List.length u))),(.val (.int .i64 0)),(.vec 8 (l) .none),(.val (.int .i64 ((↑(List.length l):Int)))),(.val (.int .i64 0))])))))))∧
 (∀jj:Int,((am Tryz.prog cG (4:Nat)=am Tryz.prog cG (4:Nat))∧
 (((@Eq (Option Nat) .none .none)∧
 ((@Eq (Nat) 0 0)∧
 ((@Eq (List Nat) [] [])∧
 (((@Eq (Option TV) (.some (.val (.slice .none 0 0))) (.some (.val (.slice .none 0 0))))∧
 True)∧
 ((@Eq (VT) ⟨[(.cells [(.val (.slice .none 0 0)),(.val (.int .i64 0)),(.val (.slice .none 0 0)),(.val (.int .u32 0)),(.val (.int .i64 0)),(.val (.bool false)),(.val (.slice .none 0 0))])], [((List.length u),(7,true)),(0,(8,true))]⟩ ⟨[(.cells [(.val (.slice .none 0 0)),(.val (.int .i64 0)),(.val (.slice .none 0 0)),(.val (.int .u32 0)),(.val (.int .i64 0)),(.val (.bool false)),(.val (.slice .none 0 0))])], [((List.length u),(7,true)),(0,(8,true))]⟩)∧
 ((@Eq (Bool) true true)∧
 (@Eq (List TV) [(.vec 8 (l) .none),(.vec 7 (u) (.tail 0 (List.length u))),(.val (.int .i64 (f))),(.ptr 0 0),(.vec 8 [] (.tail 1 0)),(.val (.bool false)),(.vec 8 (l) .none),(.val (.int .i64 ((↑(List.length l):Int)))),(.val (.int .i64 0))] [(.vec 8 (l) .none),(.vec 7 (u) (.tail 0 (List.length u))),(.val (.int .i64 (f))),(.ptr 0 0),(.vec 8 [] (.tail 1 0)),(.val (.bool false)),(.vec 8 (l) .none),(.val (.int .i64 ((↑(List.length l):Int)))),(.val (.int .i64 0))])))))))∧
 (aB Tryz.prog (fun _=> .none) 0 ⟨[(.cells (aV w x n))], [((List.length u),(7,true)),((List.length r),(8,true))]⟩ (.call ⟨(.builtin .append), #[(.tmp 114),(.tmp 116)], #[27,27]⟩) [(114,(.vec 7 (u) (.tail 0 (List.length u)))),(116,(.vec 7 [(aV w x n)] .full))] (.vec 7 (u2) (.tail 0 (k2))) ⟨[(.cells (aV w x n))],(tl2)⟩∧
 Q .normal [(.vec 8 (r) (.tail 1 (List.length r))),(.vec 7 (u2) (.tail 0 (k2)))] ⟨[(.cells (aV w x n))],(tl2)⟩ [] 120))))))
 else Q (.exit 0) [(.vec 8 (l) .none),(.vec 7 (u) (.tail 0 (List.length u)))] ⟨[], [((List.length u),(7,true))]⟩ [] 120):=by kernel_rfl
theorem zN (l u:Bs) (a z:Int) (x:AtV) (g:Bool) (j:Nat) (Q:Exit→List TV→VT→List Nat→Nat→Prop):vx Tryz.prog ae aR (aA [(999998, .dead,none),(26, .elt (az a z x g),none)]) 300 aD none 0 (bd Tryz.prog cG 2) (aj 120 nw (iM l u 0 j)) (dB u.length) [] (bA nw Q)=
 (bif decide ((↑j:Int)<(↑(List.length l):Int))
 then (ax Tryz.prog (fun _=> .none) (.indexAddr 29 (.tmp 21) (.tmp 23)) [(21,(.vec 8 (l) .none)),(23,(.val (.int .i64 ((↑j:Int)))))] (.elt (az a z x g))∧
 (bif g
 then Q (.exit 2) [(.vec 8 (l) .none),(.vec 7 (u) (.tail 0 (List.length u))),(.val (.int .i64 ((↑j:Int)))),(.vec 8 (l) .none),(.val (.int .i64 ((↑(List.length l):Int)))),(.val (.int .i64 ((↑j:Int))))] ⟨[(.cells (az a z x g))], [((List.length u),(7,true))]⟩ [] 120
 else Q .normal [(.vec 8 (l) .none),(.vec 7 (u) (.tail 0 (List.length u))),(.val (.int .i64 0)),(.vec 8 (l) .none),(.val (.int .i64 ((↑(List.length l):Int)))),(.val (.int .i64 (IntKind.wrap IntKind.i64 ((↑j:Int)+(1:Int)))))] ⟨[(.cells (az a z x g))], [((List.length u),(7,true))]⟩ [] 120))
 else Q (.exit 2) [(.vec 8 (l) .none),(.vec 7 (u) (.tail 0 (List.length u))),(.val (.int .i64 0)),(.vec 8 (l) .none),(.val (.int .i64 ((↑(List.length l):Int)))),(.val (.int .i64 ((↑j:Int))))] ⟨[], [((List.length u),(7,true))]⟩ [] 120):=by kernel_rfl
theorem zO (l u r r2 w n:Bs) (c0 c1 c2 c3 c4 c5 c6:TV) (a z b y:Int) (x x2 v:AtV) (sm:Bool) (f j k2:Nat) (tl2:eo) (Q:Exit→List TV→VT→List Nat→Nat→Prop):vx Tryz.prog ae (aw [(lS,o6 w v n true),(gi,il sm)]) (aA [(999998, .dead,none),(37, .elt (az a z x true),none),(47, .val (.bool false),none),(93, .val (.bool true),none),(53, .elt (az b y x2 true),none),(70, .elt (az b y x2 true),none),(83, .elt (az b y x2 true),none),(99, .elt (az b y x2 true),none),(111, .vec 8 r2 (.tail 1 k2),some fun T=>{T with tails:=tl2})]) 300 aD none 0 (bd Tryz.prog cG 4) (aj 120 fO (dQ l u r f j)) (eU [c0,c1,c2,c3,c4,c5,c6] u.length r.length) [] (bA fO Q)=
 (bif decide ((↑j:Int)<(↑(List.length l):Int))
 then (ax Tryz.prog (fun _=> .none) (.indexAddr 29 (.tmp 32) (.tmp 34)) [(32,(.vec 8 (l) .none)),(34,(.val (.int .i64 ((↑j:Int)))))] (.elt (az a z x true))∧
 (nm [(c0),(c1),(c2),(c3),(c4),(c5),(c6)] (az a z x true) (w) (v) (n) true∧
 (ax Tryz.prog (fun _=> .none) (.binOp .lss 3 (.tmp 45) (.tmp 46) 3) [(45,(.val (.int .i64 ((↑j:Int))))),(46,(.val (.int .i64 ((↑f:Int)))))] (.val (.bool false))∧
 (ax Tryz.prog (fun _=> .none) (.indexAddr 29 (.tmp 51) (.tmp 52)) [(51,(.vec 8 (l) .none)),(52,(.val (.int .i64 ((↑f:Int)))))] (.elt (az b y x2 true))∧
 Q .normal [(.vec 8 (l) .none),(.vec 7 (u) (.tail 0 (List.length u))),(.val (.int .i64 ((↑f:Int)))),(.ptr 0 0),(.vec 8 (r) (.tail 1 (List.length r))),(.val (.bool false)),(.vec 8 (l) .none),(.val (.int .i64 ((↑(List.length l):Int)))),(.val (.int .i64 (IntKind.wrap IntKind.i64 ((↑j:Int)+(1:Int)))))] ⟨[(.cells (aV w v n)),(.cells (az a z x true)),(.cells (aV w v n))], [((List.length u),(7,true)),((List.length r),(8,true))]⟩ [] 120))))
 else Q (.exit 4) [(.vec 8 (l) .none),(.vec 7 (u) (.tail 0 (List.length u))),(.val (.int .i64 ((↑f:Int)))),(.ptr 0 0),(.vec 8 (r) (.tail 1 (List.length r))),(.val (.bool false)),(.vec 8 (l) .none),(.val (.int .i64 ((↑(List.length l):Int)))),(.val (.int .i64 ((↑j:Int))))] ⟨[(.cells [(c0),(c1),(c2),(c3),(c4),(c5),(c6)])], [((List.length u),(7,true)),((List.length r),(8,true))]⟩ [] 120):=by kernel_rfl
theorem IX (l u r r2 w n:Bs) (c0 c1 c2 c3 c4 c5 c6:TV) (a z b y:Int) (x x2 v:AtV) (sm:Bool) (f j k2:Nat) (tl2:eo) (Q:Exit→List TV→VT→List Nat→Nat→Prop):vx Tryz.prog ae (aw [(lS,o6 w v n true),(gi,il sm)]) (aA [(999998, .dead,none),(37, .elt (az a z x false),none),(47, .val (.bool false),none),(93, .val (.bool true),none),(53, .elt (az b y x2 false),none),(70, .elt (az b y x2 false),none),(83, .elt (az b y x2 false),none),(99, .elt (az b y x2 false),none),(111, .vec 8 r2 (.tail 1 k2),some fun T=>{T with tails:=tl2})]) 300 aD none 0 (bd Tryz.prog cG 4) (aj 120 fO (dQ l u r f j)) (eU [c0,c1,c2,c3,c4,c5,c6] u.length r.length) [] (bA fO Q)=
 (bif decide ((↑j:Int)<(↑(List.length l):Int))
 then (ax Tryz.prog (fun _=> .none) (.indexAddr 29 (.tmp 32) (.tmp 34)) [(32,(.vec 8 (l) .none)),(34,(.val (.int .i64 ((↑j:Int)))))] (.elt (az a z x false))∧
 (nm [(c0),(c1),(c2),(c3),(c4),(c5),(c6)] (az a z x false) (w) (v) (n) true∧
 (ax Tryz.prog (fun _=> .none) (.binOp .lss 3 (.tmp 45) (.tmp 46) 3) [(45,(.val (.int .i64 ((↑j:Int))))),(46,(.val (.int .i64 ((↑f:Int)))))] (.val (.bool false))∧
 (ax Tryz.prog (fun _=> .none) (.indexAddr 29 (.tmp 51) (.tmp 52)) [(51,(.vec 8 (l) .none)),(52,(.val (.int .i64 ((↑f:Int)))))] (.elt (az b y x2 false))∧
 Q .normal [(.vec 8 (l) .none),(.vec 7 (u) (.tail 0 (List.length u))),(.val (.int .i64 ((↑f:Int)))),(.ptr 0 0),(.vec 8 (r) (.tail 1 (List.length r))),(.val (.bool false)),(.vec 8 (l) .none),(.val (.int .i64 ((↑(List.length l):Int)))),(.val (.int .i64 (IntKind.wrap IntKind.i64 ((↑j:Int)+(1:Int)))))] ⟨[(.cells (aV w v n)),(.cells (az a z x false)),(.cells (aV w v n))], [((List.length u),(7,true)),((List.length r),(8,true))]⟩ [] 120))))
 else Q (.exit 4) [(.vec 8 (l) .none),(.vec 7 (u) (.tail 0 (List.length u))),(.val (.int .i64 ((↑f:Int)))),(.ptr 0 0),(.vec 8 (r) (.tail 1 (List.length r))),(.val (.bool false)),(.vec 8 (l) .none),(.val (.int .i64 ((↑(List.length l):Int)))),(.val (.int .i64 ((↑j:Int))))] ⟨[(.cells [(c0),(c1),(c2),(c3),(c4),(c5),(c6)])], [((List.length u),(7,true)),((List.length r),(8,true))]⟩ [] 120):=by kernel_rfl
theorem IY (l u r r2 w n:Bs) (c0 c1 c2 c3 c4 c5 c6:TV) (a z b y:Int) (x x2 v:AtV) (ok:Bool) (sm:Bool) (f j k2:Nat) (tl2:eo) (Q:Exit→List TV→VT→List Nat→Nat→Prop):vx Tryz.prog ae (aw [(lS,o6 w v n ok),(gi,il sm)]) (aA [(999998, .dead,none),(37, .elt (az a z x false),none),(47, .val (.bool true),none),(93, .val (.bool false),none),(53, .elt (az b y x2 true),none),(70, .elt (az b y x2 true),none),(83, .elt (az b y x2 true),none),(99, .elt (az b y x2 true),none),(111, .vec 8 r2 (.tail 1 k2),some fun T=>{T with tails:=tl2})]) 300 aD none 0 (bd Tryz.prog cG 4) (aj 120 fO (dQ l u r f j)) (eU [c0,c1,c2,c3,c4,c5,c6] u.length r.length) [] (bA fO Q)=
 (bif decide ((↑j:Int)<(↑(List.length l):Int))
 then (ax Tryz.prog (fun _=> .none) (.indexAddr 29 (.tmp 32) (.tmp 34)) [(32,(.vec 8 (l) .none)),(34,(.val (.int .i64 ((↑j:Int)))))] (.elt (az a z x false))∧
 (nm [(c0),(c1),(c2),(c3),(c4),(c5),(c6)] (az a z x false) (w) (v) (n) (ok)∧
 (ax Tryz.prog (fun _=> .none) (.binOp .lss 3 (.tmp 45) (.tmp 46) 3) [(45,(.val (.int .i64 ((↑j:Int))))),(46,(.val (.int .i64 ((↑f:Int)))))] (.val (.bool true))∧
 (ax Tryz.prog (fun _=> .none) (.indexAddr 29 (.tmp 81) (.tmp 82)) [(81,(.vec 8 (l) .none)),(82,(.val (.int .i64 ((↑f:Int)))))] (.elt (az b y x2 true))∧
 (jF (AtV.cells x) (AtV.cells x2) (sm)∧
 (ax Tryz.prog (fun _=> .none) (.binOp .geq 3 (.tmp 91) (.tmp 92) 3) [(91,(.val (.int .i64 ((↑j:Int))))),(92,(.val (.int .i64 ((↑f:Int)))))] (.val (.bool false))∧
 (aB Tryz.prog (fun _=> .none) 0 ⟨[(.cells [(c0),(c1),(c2),(c3),(c4),(c5),(c6)]),(.cells (az a z x false)),(.cells (aV w v n))], [((List.length u),(7,true)),((List.length r),(8,true))]⟩ (.call ⟨(.builtin .append), #[(.tmp 108),(.tmp 110)], #[29,29]⟩) [(108,(.vec 8 (r) (.tail 1 (List.length r)))),(110,(.vec 8 [(az a z x false)] .full))] (.vec 8 (r2) (.tail 1 (k2))) ⟨[(.cells [(c0),(c1),(c2),(c3),(c4),(c5),(c6)]),(.cells (az a z x false)),(.cells (aV w v n))],(tl2)⟩∧
 Q .normal [(.vec 8 (l) .none),(.vec 7 (u) (.tail 0 (List.length u))),(.val (.int .i64 ((↑f:Int)))),(.ptr 0 0),(.vec 8 (r2) (.tail 1 (k2))),(.val (.bool false)),(.vec 8 (l) .none),(.val (.int .i64 ((↑(List.length l):Int)))),(.val (.int .i64 (IntKind.wrap IntKind.i64 ((↑j:Int)+(1:Int)))))] ⟨[(.cells [(c0),(c1),(c2),(c3),(c4),(c5),(c6)]),(.cells (az a z x false)),(.cells (aV w v n))],(tl2)⟩ [] 120)))))))
 else Q (.exit 4) [(.vec 8 (l) .none),(.vec 7 (u) (.tail 0 (List.length u))),(.val (.int .i64 ((↑f:Int)))),(.ptr 0 0),(.vec 8 (r) (.tail 1 (List.length r))),(.val (.bool false)),(.vec 8 (l) .none),(.val (.int .i64 ((↑(List.length l):Int)))),(.val (.int .i64 ((↑j:Int))))] ⟨[(.cells [(c0),(c1),(c2),(c3),(c4),(c5),(c6)])], [((List.length u),(7,true)),((List.length r),(8,true))]⟩ [] 120):=by kernel_rfl
theorem IZ (l u r r2 w n:Bs) (c0 c1 c2 c3 c4 c5 c6:TV) (a z b y:Int) (x x2 v:AtV) (ok:Bool) (sm:Bool) (f j k2:Nat) (tl2:eo) (Q:Exit→List TV→VT→List Nat→Nat→Prop):vx Tryz.prog ae (aw [(lS,o6 w v n ok),(gi,il sm)]) (aA [(999998, .dead,none),(37, .elt (az a z x false),none),(47, .val (.bool false),none),(93, .val (.bool true),none),(53, .elt (az b y x2 true),none),(70, .elt (az b y x2 true),none),(83, .elt (az b y x2 true),none),(99, .elt (az b y x2 true),none),(111, .vec 8 r2 (.tail 1 k2),some fun T=>{T with tails:=tl2})]) 300 aD none 0 (bd Tryz.prog cG 4) (aj 120 fO (dQ l u r f j)) (eU [c0,c1,c2,c3,c4,c5,c6] u.length r.length) [] (bA fO Q)=
 (bif decide ((↑j:Int)<(↑(List.length l):Int))
 then (ax Tryz.prog (fun _=> .none) (.indexAddr 29 (.tmp 32) (.tmp 34)) [(32,(.vec 8 (l) .none)),(34,(.val (.int .i64 ((↑j:Int)))))] (.elt (az a z x false))∧
 (nm [(c0),(c1),(c2),(c3),(c4),(c5),(c6)] (az a z x false) (w) (v) (n) (ok)∧
 (ax Tryz.prog (fun _=> .none) (.binOp .lss 3 (.tmp 45) (.tmp 46) 3) [(45,(.val (.int .i64 ((↑j:Int))))),(46,(.val (.int .i64 ((↑f:Int)))))] (.val (.bool false))∧
 (ax Tryz.prog (fun _=> .none) (.indexAddr 29 (.tmp 51) (.tmp 52)) [(51,(.vec 8 (l) .none)),(52,(.val (.int .i64 ((↑f:Int)))))] (.elt (az b y x2 true))∧
 (ax Tryz.prog (fun _=> .none) (.indexAddr 29 (.tmp 81) (.tmp 82)) [(81,(.vec 8 (l) .none)),(82,(.val (.int .i64 ((↑f:Int)))))] (.elt (az b y x2 true))∧
 (jF (AtV.cells x) (AtV.cells x2) (sm)∧
 (ax Tryz.prog (fun _=> .none) (.binOp .geq 3 (.tmp 91) (.tmp 92) 3) [(91,(.val (.int .i64 ((↑j:Int))))),(92,(.val (.int .i64 ((↑f:Int)))))] (.val (.bool true))∧
 (ax Tryz.prog (fun _=> .none) (.indexAddr 29 (.tmp 97) (.tmp 98)) [(97,(.vec 8 (l) .none)),(98,(.val (.int .i64 ((↑f:Int)))))] (.elt (az b y x2 true))∧
 (aB Tryz.prog (fun _=> .none) 0 ⟨[(.cells [(c0),(c1),(c2),(c3),(c4),(c5),(c6)]),(.cells (az a z x false)),(.cells (aV w v n))], [((List.length u),(7,true)),((List.length r),(8,true))]⟩ (.call ⟨(.builtin .append), #[(.tmp 108),(.tmp 110)], #[29,29]⟩) [(108,(.vec 8 (r) (.tail 1 (List.length r)))),(110,(.vec 8 [(az a z x false)] .full))] (.vec 8 (r2) (.tail 1 (k2))) ⟨[(.cells [(c0),(c1),(c2),(c3),(c4),(c5),(c6)]),(.cells (az a z x false)),(.cells (aV w v n))],(tl2)⟩∧
 Q .normal [(.vec 8 (l) .none),(.vec 7 (u) (.tail 0 (List.length u))),(.val (.int .i64 ((↑f:Int)))),(.ptr 0 0),(.vec 8 (r2) (.tail 1 (k2))),(.val (.bool false)),(.vec 8 (l) .none),(.val (.int .i64 ((↑(List.length l):Int)))),(.val (.int .i64 (IntKind.wrap IntKind.i64 ((↑j:Int)+(1:Int)))))] ⟨[(.cells [(c0),(c1),(c2),(c3),(c4),(c5),(c6)]),(.cells (az a z x false)),(.cells (aV w v n))],(tl2)⟩ [] 120)))))))))
 else Q (.exit 4) [(.vec 8 (l) .none),(.vec 7 (u) (.tail 0 (List.length u))),(.val (.int .i64 ((↑f:Int)))),(.ptr 0 0),(.vec 8 (r) (.tail 1 (List.length r))),(.val (.bool false)),(.vec 8 (l) .none),(.val (.int .i64 ((↑(List.length l):Int)))),(.val (.int .i64 ((↑j:Int))))] ⟨[(.cells [(c0),(c1),(c2),(c3),(c4),(c5),(c6)])], [((List.length u),(7,true)),((List.length r),(8,true))]⟩ [] 120):=by kernel_rfl
theorem I0 (l u r r2 w n:Bs) (c0 c1 c2 c3 c4 c5 c6:TV) (a z b y:Int) (x x2 v:AtV) (f j k2:Nat) (tl2:eo) (Q:Exit→List TV→VT→List Nat→Nat→Prop):vx Tryz.prog ae (aw [(lS,o6 w v n false),(gi,il false)]) (aA [(999998, .dead,none),(37, .elt (az a z x false),none),(47, .val (.bool false),none),(93, .val (.bool true),none),(53, .elt (az b y x2 false),none),(70, .elt (az b y x2 false),none),(83, .elt (az b y x2 false),none),(99, .elt (az b y x2 false),none),(111, .vec 8 r2 (.tail 1 k2),some fun T=>{T with tails:=tl2})]) 300 aD none 0 (bd Tryz.prog cG 4) (aj 120 fO (dQ l u r f j)) (eU [c0,c1,c2,c3,c4,c5,c6] u.length r.length) [] (bA fO Q)=
 (bif decide ((↑j:Int)<(↑(List.length l):Int))
 then (ax Tryz.prog (fun _=> .none) (.indexAddr 29 (.tmp 32) (.tmp 34)) [(32,(.vec 8 (l) .none)),(34,(.val (.int .i64 ((↑j:Int)))))] (.elt (az a z x false))∧
 (nm [(c0),(c1),(c2),(c3),(c4),(c5),(c6)] (az a z x false) (w) (v) (n) false∧
 (ax Tryz.prog (fun _=> .none) (.binOp .lss 3 (.tmp 45) (.tmp 46) 3) [(45,(.val (.int .i64 ((↑j:Int))))),(46,(.val (.int .i64 ((↑f:Int)))))] (.val (.bool false))∧
 (ax Tryz.prog (fun _=> .none) (.indexAddr 29 (.tmp 51) (.tmp 52)) [(51,(.vec 8 (l) .none)),(52,(.val (.int .i64 ((↑f:Int)))))] (.elt (az b y x2 false))∧
 (ax Tryz.prog (fun _=> .none) (.indexAddr 29 (.tmp 81) (.tmp 82)) [(81,(.vec 8 (l) .none)),(82,(.val (.int .i64 ((↑f:Int)))))] (.elt (az b y x2 false))∧
 (jF (AtV.cells x) (AtV.cells x2) false∧
 (ax Tryz.prog (fun _=> .none) (.binOp .geq 3 (.tmp 91) (.tmp 92) 3) [(91,(.val (.int .i64 ((↑j:Int))))),(92,(.val (.int .i64 ((↑f:Int)))))] (.val (.bool true))∧
 (ax Tryz.prog (fun _=> .none) (.indexAddr 29 (.tmp 97) (.tmp 98)) [(97,(.vec 8 (l) .none)),(98,(.val (.int .i64 ((↑f:Int)))))] (.elt (az b y x2 false))∧
 (aB Tryz.prog (fun _=> .none) 0 ⟨[(.cells [(c0),(c1),(c2),(c3),(c4),(c5),(c6)]),(.cells (az a z x false)),(.cells (aV w v n))], [((List.length u),(7,true)),((List.length r),(8,true))]⟩ (.call ⟨(.builtin .append), #[(.tmp 108),(.tmp 110)], #[29,29]⟩) [(108,(.vec 8 (r) (.tail 1 (List.length r)))),(110,(.vec 8 [(az a z x false)] .full))] (.vec 8 (r2) (.tail 1 (k2))) ⟨[(.cells [(c0),(c1),(c2),(c3),(c4),(c5),(c6)]),(.cells (az a z x false)),(.cells (aV w v n))],(tl2)⟩∧
 Q .normal [(.vec 8 (l) .none),(.vec 7 (u) (.tail 0 (List.length u))),(.val (.int .i64 ((↑f:Int)))),(.ptr 0 0),(.vec 8 (r2) (.tail 1 (k2))),(.val (.bool false)),(.vec 8 (l) .none),(.val (.int .i64 ((↑(List.length l):Int)))),(.val (.int .i64 (IntKind.wrap IntKind.i64 ((↑j:Int)+(1:Int)))))] ⟨[(.cells [(c0),(c1),(c2),(c3),(c4),(c5),(c6)]),(.cells (az a z x false)),(.cells (aV w v n))],(tl2)⟩ [] 120)))))))))
 else Q (.exit 4) [(.vec 8 (l) .none),(.vec 7 (u) (.tail 0 (List.length u))),(.val (.int .i64 ((↑f:Int)))),(.ptr 0 0),(.vec 8 (r) (.tail 1 (List.length r))),(.val (.bool false)),(.vec 8 (l) .none),(.val (.int .i64 ((↑(List.length l):Int)))),(.val (.int .i64 ((↑j:Int))))] ⟨[(.cells [(c0),(c1),(c2),(c3),(c4),(c5),(c6)])], [((List.length u),(7,true)),((List.length r),(8,true))]⟩ [] 120):=by kernel_rfl
theorem Mw (L M u r l2:Bs) (bl:Bs→Bool) (bs:Bs→Bs→Bool) (bp bg:Bool) (a n:Int) (x:AtV) (g:Bool) (Q:TV→VT→Prop):aq Tryz.prog ae (aw [(BI,xS bl),(BJ,xT),(BE,xN u),(ji,xQ),(cG,xV u),(jk,xR),(BD,xM r),(en,rq r),(gj,xP bs),(BF,xO l2),(dn,xW l2),(BG,s8 bp),(BH,s7 bg),(tZ,rf bg)]) (aA [(999998, .dead,none),(76, .elt (az a n x g),none),(81, .elt (az a n x g),none)]) 300 (OB L M u (am Tryz.prog jl 0)) 0 jl [.vec 8 L .none, .vec 8 M .none] ⟨[], []⟩ Q=
 (nn (L) (bl L)∧
 (bif !bl L
 then Q (.val (.bool true)) ⟨[], []⟩
 else (nn (M) (bl M)∧
 (bif !bl M
 then Q (.val (.bool true)) ⟨[], []⟩
 else (BC (L) (u)∧
 (jG (L)∧
 (BA (L) (u)∧
 (bif aG BinOp.neq (ar (Value.int IntKind.i64 (↑(List.length u):Int)) (Value.int IntKind.i64 (↑(List.length u):Int)))
 then Q (.val (.bool false)) ⟨[], []⟩
 else (BB (u)∧
 ((am Tryz.prog jl (0:Nat)=am Tryz.prog jl (0:Nat))∧
 (((@Eq (Option Nat) .none .none)∧
 ((@Eq (Nat) 0 0)∧
 ((@Eq (List Nat) [] [])∧
 (True  ∧
 ((@Eq (VT) ⟨[], []⟩ ⟨[], []⟩)∧
 ((@Eq (Bool) true true)∧
 (@Eq (List TV) [(.vec 8 (L) .none),(.vec 8 (M) .none),(.vec 7 (u) .none),(.vec 7 (u) .none),(.vec 7 (u) .none),(.val (.int .i64 ((↑(List.length u):Int)))),(.val (.int .i64 0))] [(.vec 8 (L) .none),(.vec 8 (M) .none),(.vec 7 (u) .none),(.vec 7 (u) .none),(.vec 7 (u) .none),(.val (.int .i64 ((↑(List.length u):Int)))),(.val (.int .i64 0))])))))))∧
 (GQ (L) (r)∧
 (jG (r)∧
 (jG (L)∧
 (Bz (L) (r)∧
 (sZ (r) (r) (bs r r)∧
 (bif bs r r
 then (GR (u) (l2)∧
 (jG (l2)∧
 (GP (u) (l2)∧
 (sZ (l2) (l2) (bs l2 l2)∧
 (bif bs l2 l2
 then (Eb (L) (M) (bp)∧
 (jG (L)∧
 (jG (M)∧
 (sZ (L) (M) (bs L M)∧
 (bif aG BinOp.eql (ar (Value.bool bp) (Value.bool (bs L M)))
 then (bif aG BinOp.eql (ar (Value.int IntKind.i64 (↑(List.length L):Int)) (Value.int IntKind.i64 (0:Int)))
 then Q (.val (.bool true)) ⟨[], []⟩
 else (ax Tryz.prog (fun _=> .none) (.indexAddr 22 (.tmp 75) (.const (.int .i64 0))) [(75,(.vec 8 (L) .none))] (.elt (az a n x g))∧
 (Ea (az a n x g) (bg)∧
 (jG (L)∧
 (ax Tryz.prog (fun _=> .none) (.indexAddr 29 (.tmp 80) (.const (.int .i64 0))) [(80,(.vec 8 (L) .none))] (.elt (az a n x g))∧
 (vL (az a n x g) (bg)∧
 (bif aG BinOp.eql (ar (Value.bool bg) (Value.bool bg))
 then Q (.val (.bool true)) ⟨[], []⟩
 else Q (.val (.bool false)) ⟨[], []⟩)))))))
 else Q (.val (.bool false)) ⟨[], []⟩)))))
 else Q (.val (.bool false)) ⟨[], []⟩)))))
 else Q (.val (.bool false)) ⟨[], []⟩))))))))))))))))):=by kernel_rfl
theorem zQ (L M u r l2:Bs) (bl:Bs→Bool) (bs:Bs→Bs→Bool) (bp bg:Bool) (a n:Int) (x:AtV) (g:Bool) (Q:TV→VT→Prop):aq Tryz.prog ae (aw [(BI,xS bl),(BJ,xT),(BE,xN u),(ji,xQ),(cG,xV u),(jk,xR),(BD,xM r),(en,rq r),(gj,xP bs),(BF,xO l2),(dn,xW l2),(BG,s8 bp),(BH,s7 bg),(tZ,rf bg)]) (aA [(999998, .dead,none),(76, .elt (az a n x g),none),(81, .elt (az a n x g),none)]) 300 (FV (am Tryz.prog jl 0)) 0 jl [.vec 8 L .none, .vec 8 M .none] ⟨[], []⟩ Q=
 (nn (L) (bl L)∧
 (bif !bl L
 then Q (.val (.bool true)) ⟨[], []⟩
 else (nn (M) (bl M)∧
 (bif !bl M
 then Q (.val (.bool true)) ⟨[], []⟩
 else (BC (L) (u)∧
 (jG (L)∧
 (BA (L) (u)∧
 (bif aG BinOp.neq (ar (Value.int IntKind.i64 (↑(List.length u):Int)) (Value.int IntKind.i64 (↑(List.length u):Int)))
 then Q (.val (.bool false)) ⟨[], []⟩
 else (BB (u)∧
 ((am Tryz.prog jl (0:Nat)=am Tryz.prog jl (0:Nat))∧
 False)))))))))):=by kernel_rfl
theorem zS (L M u w n:Bs) (x:AtV) (j:Nat) (Q:Exit→List TV→VT→List Nat→Nat→Prop):vx Tryz.prog ae (aw [(xL,BW)]) (aA [(999998, .dead,none),(34, .elt (aV w x n),none),(39, .elt (aV w x n),none)]) 300 aD none 0 (bd Tryz.prog jl 0) (aj 90 rt (nx L M u j)) ⟨[], []⟩ [] (bA rt Q)=
 (bif decide ((↑j:Int)<(↑(List.length u):Int))
 then (ax Tryz.prog (fun _=> .none) (.indexAddr 27 (.tmp 29) (.tmp 31)) [(29,(.vec 7 (u) .none)),(31,(.val (.int .i64 ((↑j:Int)))))] (.elt (aV w x n))∧
 (ax Tryz.prog (fun _=> .none) (.indexAddr 27 (.tmp 37) (.tmp 38)) [(37,(.vec 7 (u) .none)),(38,(.val (.int .i64 ((↑j:Int)))))] (.elt (aV w x n))∧
 (GO (aV w x n) (aV w x n)∧
 Q .normal [(.vec 8 (L) .none),(.vec 8 (M) .none),(.vec 7 (u) .none),(.vec 7 (u) .none),(.vec 7 (u) .none),(.val (.int .i64 ((↑(List.length u):Int)))),(.val (.int .i64 (IntKind.wrap IntKind.i64 ((↑j:Int)+(1:Int)))))] ⟨[(.cells (aV w x n))], []⟩ [] 90)))
 else Q (.exit 0) [(.vec 8 (L) .none),(.vec 8 (M) .none),(.vec 7 (u) .none),(.vec 7 (u) .none),(.vec 7 (u) .none),(.val (.int .i64 ((↑(List.length u):Int)))),(.val (.int .i64 ((↑j:Int))))] ⟨[], []⟩ [] 90):=by kernel_rfl
end
section
open Go.RowKit

section
variable {P:Program} {G:aK} {t e:TypeId} {n:Nat}
theorem RowI.appE (h:RowI P t e n) {T:VT} {k c:Nat} {bn:Bool} {es es2:List (List TV)} {tok:Tok} {s x:Nat} (hk:T.tails[k]?=some (c,n,bn)) (hne:Nat.beq s x=false) (hl:es.length+es2.length≤100000000):
    aB P G 0 T (.call ⟨.builtin .append, #[.tmp s, .tmp x], #[t,t]⟩) [(s, .vec n es (.tail k c)),(x, .vec n es2 tok)] (.vec n (es++es2) (.tail k (c+es2.length))) {T with tails:=T.tails.set k (c+es2.length,n,bn)}:=by
  obtain ⟨inf,z,i1,i2,i3,i4,i5⟩:=h.ex
  have h1:=fG (inf:=inf) (P:=P) (G:=G) (ro:=0) (T:=T) (T1:=T) (t:=t) (tx:=t) (s:= .tmp s) (x:= .tmp x) (l:= [(s, .vec n es (.tail k c)),(x, .vec n es2 tok)]) (es:=es) (es2:=es2) (k:=k) (n:=c) (bn:=bn) h.sl i1 i4 (by rw [i5,i2]) (by rw [i2];exact h.pos) (by rw [h.sl];rfl)
    (by rw [i2];simp [bb,bX,dW,hk]) (by rw [i2];simp [bb,bX,hne,fp])
    (by have h2:=Nat.mul_le_mul hl i3
        omega)
  rw [i2] at h1
  exact h1
theorem RowI.appN (h:RowI P t e n) {T:VT} {k c:Nat} {bn:Bool} {es:List (List TV)} {s x:Nat} (hk:T.tails[k]?=some (c,n,bn)) (hne:Nat.beq s x=false) (hl:es.length≤100000000):
    aB P G 0 T (.call ⟨.builtin .append, #[.tmp s, .tmp x], #[t,t]⟩) [(s, .vec n es (.tail k c)),(x, .val (.slice none 0 0))] (.vec n es (.tail k c)) T:=by
  obtain ⟨inf,z,i1,i2,i3,i4,i5⟩:=h.ex
  have h1:=fG (inf:=inf) (P:=P) (G:=G) (ro:=0) (T:=T) (T1:=T) (t:=t) (tx:=t) (s:= .tmp s) (x:= .tmp x) (l:= [(s, .vec n es (.tail k c)),(x, .val (.slice none 0 0))]) (es:=es) (es2:= []) (k:=k) (n:=c) (bn:=bn) h.sl i1 i4 (by rw [i5,i2]) (by rw [i2];exact h.pos) (by rw [h.sl];rfl)
    (by rw [i2];simp [bb,bX,dW,hk]) (by rw [i2];simp [bb,bX,hne,fp])
    (by have h2:=Nat.mul_le_mul hl i3
        simp only [List.length_nil,Nat.add_zero]
        omega)
  rw [i2] at h1
  have e1:T.tails.set k (c,n,bn)=T.tails:=by
    refine List.ext_getElem? fun j=> ?_
    by_cases hj:k=j
    · subst hj;rw [List.getElem?_set_self (List.getElem?_eq_some_iff.1 hk).1,hk]
    · rw [List.getElem?_set_ne hj]
  simp only [List.append_nil,List.length_nil,Nat.add_zero,e1] at h1
  exact h1
theorem RowI.appF (h:RowI P t e n) {objs:List VO} {tl:List (Nat × Nat × Bool)} {es es2:List (List TV)} {tok:Tok} {s x:Nat} (hne:Nat.beq s x=false) (hl:es.length+es2.length≤100000000):
    aB P G 0 ⟨objs,tl⟩ (.call ⟨.builtin .append, #[.tmp s, .tmp x], #[t,t]⟩) [(s, .vec n es .full),(x, .vec n es2 tok)] (.vec n (es++es2) (.tail tl.length es2.length)) ⟨objs,tl++ [(es2.length,n,false)]⟩:=by
  obtain ⟨inf,z,i1,i2,i3,i4,i5⟩:=h.ex
  have h1:=fG (inf:=inf) (P:=P) (G:=G) (ro:=0) (T:=⟨objs,tl⟩) (T1:=⟨objs,tl++ [(0,n,false)]⟩) (t:=t) (tx:=t) (s:= .tmp s) (x:= .tmp x) (l:= [(s, .vec n es .full),(x, .vec n es2 tok)]) (es:=es) (es2:=es2) (k:=tl.length) (n:=0) (bn:=false) h.sl i1 i4 (by rw [i5,i2]) (by rw [i2];exact h.pos) (by rw [h.sl];rfl)
    (by rw [i2];simp [bb,bX,dW]) (by rw [i2];simp [bb,bX,hne,fp])
    (by have h2:=Nat.mul_le_mul hl i3
        omega)
  rw [i2] at h1
  have e1:∀c,(tl++ [(0,n,false)]).set tl.length (c,n,false)=tl++ [(c,n,false)]:=fun c=>by
    rw [List.set_append_right _ _ (Nat.le_refl _)];simp
  simp only [Nat.zero_add] at h1
  rw [e1] at h1
  exact h1
theorem RowI.appFN (h:RowI P t e n) {objs:List VO} {tl:List (Nat × Nat × Bool)} {es:List (List TV)} {s x:Nat} (hne:Nat.beq s x=false) (hl:es.length≤100000000):
    aB P G 0 ⟨objs,tl⟩ (.call ⟨.builtin .append, #[.tmp s, .tmp x], #[t,t]⟩) [(s, .vec n es .full),(x, .val (.slice none 0 0))] (.vec n es (.tail tl.length 0)) ⟨objs,tl++ [(0,n,false)]⟩:=by
  obtain ⟨inf,z,i1,i2,i3,i4,i5⟩:=h.ex
  have h1:=fG (inf:=inf) (P:=P) (G:=G) (ro:=0) (T:=⟨objs,tl⟩) (T1:=⟨objs,tl++ [(0,n,false)]⟩) (t:=t) (tx:=t) (s:= .tmp s) (x:= .tmp x) (l:= [(s, .vec n es .full),(x, .val (.slice none 0 0))]) (es:=es) (es2:= []) (k:=tl.length) (n:=0) (bn:=false) h.sl i1 i4 (by rw [i5,i2]) (by rw [i2];exact h.pos) (by rw [h.sl];rfl)
    (by rw [i2];simp [bb,bX,dW]) (by rw [i2];simp [bb,bX,hne,fp])
    (by have h2:=Nat.mul_le_mul hl i3
        simp only [List.length_nil,Nat.add_zero]
        omega)
  rw [i2] at h1
  have e1:∀c,(tl++ [(0,n,false)]).set tl.length (c,n,false)=tl++ [(c,n,false)]:=fun c=>by
    rw [List.set_append_right _ _ (Nat.le_refl _)];simp
  simp only [List.append_nil,List.length_nil,Nat.zero_add] at h1
  rw [e1] at h1
  exact h1
theorem VWx.keepX {c:Code} {σ:List TV} {T:VT} {K:KX} (N M:Nat) (hN:T.objs.length≤N) (hM:T.tails.length≤M) (h:VWx P G none 0 c σ T [] fun e σ' T' D=>D= []∧K e (av (au N) (au M) σ') (T'.keep N M) []):VWx P G none 0 c σ T [] K:=by
 intro r g w a rw0 hG hσ hd hD hr
 refine wpIn_mono (h r g w a rw0 hG hσ hd hD hr) ?_
 rintro e a' w' ⟨g',σ',T',D',⟨rfl,hq⟩,e',r',hσ',hd',hDs',hx⟩
 refine ⟨g'.keep N M,_,T'.keep N M, [],hq,e'.keep rw0 hN hM,r'.keep N M,hσ'.ren (mI g' N M),hd',(fun id hid=>by cases hid), ?_,fun i hi=>absurd hi (Nat.not_lt_zero i),fun i o b hi=>absurd hi (Nat.not_lt_zero i)⟩
 simp only [VT.keep,List.length_map,List.length_take]
 have h1:=hx.len
 omega
end
end
section
open Go.RowKit
set_option maxRecDepth 100000

theorem ew:RowI Tryz.prog 94 5 1:=⟨Tryz.underlying94,⟨(Tryz.prog.info? 5).getD default,((Tryz.prog.info? 5).getD default).zero.getD default,by kernel_rfl,by kernel_rfl,Nat.le_of_ble_eq_true (by kernel_rfl),by kernel_rfl,by kernel_rfl⟩,by omega⟩
theorem BX (f h:Nat→Option Nat) (a b:Bs):bG f h (a++b)=bG f h a++bG f h b:=by
 rw [bS,bS,bS,List.map_append]
theorem BvR.nil:BvR []:=fun _ _=>rfl
theorem BvR.app {a b:Bs} (ha:BvR a) (hb:BvR b):BvR (a++b):=fun f h=>by rw [BX,ha,hb]
theorem BvR.one (v:Value):BvR [[.val v]]:=fun _ _=>rfl
theorem BvR.ren {q:Bs} (h:BvR q) (f g:Nat→Option Nat):(TV.vec 1 q .none).ren f g= .vec 1 q .none:=by simp only [TV.ren,h f g,Tok.ren]
theorem BvR.kp {q:Bs} (h:BvR q) (n:Nat):(TV.vec 1 q (.tail 0 n)).ren (au 0) (au 0)= .vec 1 q .none:=by
 simp only [TV.ren,h (au 0) (au 0)];rfl
theorem vM {x:TV} {k:Int} {q:Bs} {n:Nat} (h1:BvR q) (h2:q.length≤jh x+4) (hn:n=q.length):∃q',dA x k q' ∧TV.vec 1 q (.tail 0 n)= .vec 1 q' (.tail 0 q'.length)∧(⟨[], [(n,1,false)]⟩:VT)=⟨[], [(q'.length,1,false)]⟩:=by
 subst hn
 exact ⟨q,⟨h1,h2⟩,rfl,rfl⟩
theorem Mx {b:Bs} (hb:BvR b) (hl:b.length≤50000) (tk:Tok) (n:Int) {k:Int} (hk:k=2∨k=4):VCx Tryz.prog ae 0 gE [.vec 1 b tk, .val (.int .u64 n), .val (.int .i64 k)] ⟨[], []⟩ fun x T' =>∃q,dA (.vec 1 b tk) k q∧x= .vec 1 q (.tail 0 q.length)∧T' =⟨[], [(q.length,1,false)]⟩:=by
 rcases hk with rfl | rfl
 ·refine ak ac aa ai ah (IJ b tk n _) ⟨?_, ?_, ?_, ?_⟩
  ·exact ew.appF (objs:= []) (tl:= []) (es:= []) (es2:=b) rfl (by simp;omega)
  ·exact ew.appE (T:=⟨[], [(b.length,1,false)]⟩) (k:=0) (c:=b.length) (es:=b) rfl rfl (by simp;omega)
  ·exact ew.appE (T:=⟨[], [(b.length+1,1,false)]⟩) (k:=0) (c:=b.length+1) rfl rfl (by simp;omega)
  ·exact vM ((hb.app (.one _)).app (.one _)) (by simp [jh]) (by simp)
 ·refine ak ac aa ai ah (IL b tk n _) ⟨?_, ?_, ?_, ?_, ?_, ?_⟩
  ·exact ew.appF (objs:= []) (tl:= []) (es:= []) (es2:=b) rfl (by simp;omega)
  ·exact ew.appE (T:=⟨[], [(b.length,1,false)]⟩) (k:=0) (c:=b.length) (es:=b) rfl rfl (by simp;omega)
  ·exact ew.appE (T:=⟨[], [(b.length+1,1,false)]⟩) (k:=0) (c:=b.length+1) rfl rfl (by simp;omega)
  ·exact ew.appE (T:=⟨[], [(b.length+1+1,1,false)]⟩) (k:=0) (c:=b.length+1+1) rfl rfl (by simp;omega)
  ·exact ew.appE (T:=⟨[], [(b.length+1+1+1,1,false)]⟩) (k:=0) (c:=b.length+1+1+1) rfl rfl (by simp;omega)
  ·exact vM ((((hb.app (.one _)).app (.one _)).app (.one _)).app (.one _)) (by simp [jh]) (by simp)
theorem My (n:Int) {k:Int} (hk:k=2∨k=4):VCx Tryz.prog ae 0 gE [.val (.slice none 0 0), .val (.int .u64 n), .val (.int .i64 k)] ⟨[], []⟩ fun x T' =>∃q,dA (.val (.slice none 0 0)) k q∧x= .vec 1 q (.tail 0 q.length)∧T' =⟨[], [(q.length,1,false)]⟩:=by
 rcases hk with rfl | rfl
 ·refine ak ac aa ai ah (IK n _) ⟨?_, ?_, ?_, ?_⟩
  ·exact ew.appFN (objs:= []) (tl:= []) (es:= []) rfl (by simp)
  ·exact ew.appE (T:=⟨[], [(0,1,false)]⟩) (k:=0) (c:=0) (es:= []) rfl rfl (by simp)
  ·exact ew.appE (T:=⟨[], [(1,1,false)]⟩) (k:=0) (c:=1) rfl rfl (by simp)
  ·exact vM ((BvR.one _).app (.one _)) (by simp [jh]) (by simp)
 ·refine ak ac aa ai ah (IM n _) ⟨?_, ?_, ?_, ?_, ?_, ?_⟩
  ·exact ew.appFN (objs:= []) (tl:= []) (es:= []) rfl (by simp)
  ·exact ew.appE (T:=⟨[], [(0,1,false)]⟩) (k:=0) (c:=0) (es:= []) rfl rfl (by simp)
  ·exact ew.appE (T:=⟨[], [(1,1,false)]⟩) (k:=0) (c:=1) rfl rfl (by simp)
  ·exact ew.appE (T:=⟨[], [(2,1,false)]⟩) (k:=0) (c:=2) rfl rfl (by simp)
  ·exact ew.appE (T:=⟨[], [(3,1,false)]⟩) (k:=0) (c:=3) rfl rfl (by simp)
  ·exact vM ((((BvR.one _).app (.one _)).app (.one _)).app (.one _)) (by simp [jh]) (by simp)
theorem zT {x:TV} {k:Int} (h:eC x k) (n:Int):VCx Tryz.prog ae 0 gE [x, .val (.int .u64 n), .val (.int .i64 k)] ⟨[], []⟩ fun y T' =>∃q,dA x k q∧y= .vec 1 q (.tail 0 q.length)∧T' =⟨[], [(q.length,1,false)]⟩:=by
 obtain ⟨hk,rfl | ⟨b,tk,rfl,hb,hl⟩⟩:=h
 ·exact My n hk
 ·exact Mx hb hl tk n hk
theorem zU {x:TV} {k:Int} (h:eC x k) (f g:Nat→Option Nat):∃x2,eC x2 k∧x.ren f g=x2∧∀q,dA x2 k q→dA x k q:=by
 obtain ⟨hk,rfl | ⟨b,tk,rfl,hb,hl⟩⟩:=h
 ·exact ⟨_,⟨hk, .inl rfl⟩,rfl,fun q h=>h⟩
 ·exact ⟨.vec 1 b (tk.ren f g),⟨hk, .inr ⟨b,_,rfl,hb,hl⟩⟩,by simp only [TV.ren,hb f g],fun q h=>h⟩
theorem zV:∀ro ys T K,t6 ro ys T K→VCx Tryz.prog ae ro gE ys T K:=by
 intro ro ys T K h
 unfold t6 at h
 split at h
 ·rename_i x n k
  obtain ⟨hd,hk⟩:=h
  obtain ⟨x2,h2,e2,h3⟩:=zU hd (bc []) (bc [])
  refine (VCx.lift (xs:= [x2, .val (.int .u64 n), .val (.int .i64 k)]) (T:=T) [] [] ap List.nodup_nil List.nodup_nil (by simp) (by simp) (by simp) (by simp only [av,TV.ren,e2]) (by
   rw [VT.give_nil]
   refine VCx.keepQ (Q:=fun y T' =>∃q,dA x2 k q∧y= .vec 1 q .none∧T' =⟨[], []⟩) 0 0 (Nat.le_refl _) (Nat.le_refl _) ((zT h2 n).mono ?_)
   rintro y T' ⟨q,hq,rfl,rfl⟩
   exact ⟨q,hq,hq.1.kp _,rfl⟩) (fun _ _ _=>⟨Nat.zero_le _,Nat.zero_le _⟩)).mono ?_
  rintro z T' ⟨y,T'',⟨q,hq,rfl,rfl⟩,rfl,rfl⟩
  have hb:T.back [] [] ⟨[], []⟩=T:=by rw [VT.back_nil];cases T;simp
  rw [hq.1.ren,hb]
  exact hk q (h3 q hq)
 ·exact h.elim
theorem I1:∀ro ys T K,BK ro ys T K→VCx Tryz.prog ae ro gE ys T K:=by
 intro ro ys T K h
 unfold BK at h
 split at h
 ·rename_i x n k
  obtain ⟨⟨rfl,hd⟩,hk⟩:=h
  obtain ⟨x2,h2,e2,h3⟩:=zU hd (bc []) (bc [])
  refine (VCx.lift (xs:= [x2, .val (.int .u64 n), .val (.int .i64 k)]) (T:=T) [] [] ap List.nodup_nil List.nodup_nil (by simp) (by simp) (by simp) (by simp only [av,TV.ren,e2]) (by rw [VT.give_nil];exact zT h2 n) (fun _ _ _=>⟨Nat.zero_le _,Nat.zero_le _⟩)).mono ?_
  rintro z T' ⟨y,T'',⟨q,hq,rfl,rfl⟩,rfl,rfl⟩
  rw [VT.back_nil]
  have:=hk q (h3 q hq)
  simp only [TV.ren,Tok.ren,hq.1 (ba T.objs.length []) (ba T.tails.length [])]
  simpa [ba] using this
 ·exact h.elim
theorem Mz {f t:Int} {v:Bs} (hf:f=64∨f=128) (hv:BvR v) (hl:v.length≤100):VCx Tryz.prog ae 0 tY [.agg [.val (.int .i64 f), .val (.int .i64 t), .vec 1 v .none]] ⟨[], []⟩ fun x T' =>∃q,vE [] q∧x= .vec 1 q .none∧T' =⟨[], []⟩:=by
  have key:∀(a b c:Value),vE [] ([[.val a], [.val b]]++ [[.val c]]++v):=fun a b c=>⟨BvR.app (fun _ _=>rfl) hv,by simp;omega⟩
  rcases hf with rfl | rfl
  · refine VCx.keepQ 0 0 (Nat.le_refl _) (Nat.le_refl _) (ak ac aa ai ah (FY t v ([[.val (.int .u8 64)], [.val (.int .u8 (IntKind.wrap .u8 t))]]++ [[.val (.int .u8 (IntKind.wrap .u8 (v.length:Int)))]]) ([[.val (.int .u8 64)], [.val (.int .u8 (IntKind.wrap .u8 t))]]++ [[.val (.int .u8 (IntKind.wrap .u8 (v.length:Int)))]]++v) (1+v.length) [(1+v.length,1,false)] _) (aH (decide_eq_false (by omega)) ⟨?_, ?_, ?_⟩))
    · exact ew.appF (objs:= [_]) (tl:= []) rfl (by simp)
    · exact ew.appE (T:=⟨[_], [(1,1,false)]⟩) (k:=0) (c:=1) rfl rfl (by simp;omega)
    · exact ⟨_,key _ _ _,(key _ _ _).1.kp _,rfl⟩
  · refine VCx.keepQ 0 0 (Nat.le_refl _) (Nat.le_refl _) (ak ac aa ai ah (Ec t v ([[.val (.int .u8 128)], [.val (.int .u8 (IntKind.wrap .u8 t))]]++ [[.val (.int .u8 (IntKind.wrap .u8 (v.length:Int)))]]) ([[.val (.int .u8 128)], [.val (.int .u8 (IntKind.wrap .u8 t))]]++ [[.val (.int .u8 (IntKind.wrap .u8 (v.length:Int)))]]++v) (1+v.length) [(1+v.length,1,false)] _) (aH (decide_eq_false (by omega)) ⟨?_, ?_, ?_⟩))
    · exact ew.appF (objs:= [_]) (tl:= []) rfl (by simp)
    · exact ew.appE (T:=⟨[_], [(1,1,false)]⟩) (k:=0) (c:=1) rfl rfl (by simp;omega)
    · exact ⟨_,key _ _ _,(key _ _ _).1.kp _,rfl⟩
theorem VCx.liftSome {ro:Nat} {f:FuncId} {xs ys:List TV} {T:VT} {R:Bs→Prop} {K:TV→VT→Prop} (hx:av (bc []) (bc []) ys=xs) (h:VCx Tryz.prog ae 0 f xs ⟨[], []⟩ fun x T' =>∃q,R q∧x= .vec 1 q .none∧T' =⟨[], []⟩) (hr:∀q,R q→BvR q) (k:∀q,R q→K (.vec 1 q .none) T):VCx Tryz.prog ae ro f ys T K:=by
 refine (VCx.lift (T:=T) [] [] ap List.nodup_nil List.nodup_nil (by simp) (by simp) (by simp) hx (by rw [VT.give_nil];exact h) (fun _ _ _=>⟨Nat.zero_le _,Nat.zero_le _⟩)).mono ?_
 rintro z T' ⟨y,T'',⟨q,hq,rfl,rfl⟩,rfl,rfl⟩
 have hb:T.back [] [] ⟨[], []⟩=T:=by rw [VT.back_nil];cases T;simp
 rw [(hr q hq).ren,hb]
 exact k q hq
theorem I2:∀ro ys T K,BL ro ys T K→VCx Tryz.prog ae ro tY ys T K:=by
 intro ro ys T K h
 unfold BL at h
 split at h
 ·obtain ⟨⟨f,t,v,rfl,hf,hv,hl⟩,hk⟩:=h
  exact VCx.liftSome (by simp only [av,TV.ren,hv (bc []) (bc []),Tok.ren]) (Mz (t:=t) hf hv hl) (fun q hq=>hq.1) fun q hq=>hk q hq
 ·exact h.elim
theorem FZ:RowI Tryz.prog 135 134 3:=⟨Tryz.underlying135,⟨(Tryz.prog.info? 134).getD default,((Tryz.prog.info? 134).getD default).zero.getD default,by kernel_rfl,by kernel_rfl,Nat.le_of_ble_eq_true (by kernel_rfl),by kernel_rfl,by kernel_rfl⟩,by omega⟩
theorem zW {rs:List (Int × Int × Bs)} (h:∀r∈rs,sY r) (f g:Nat→Option Nat):bG f g (rs.map gW)=rs.map gW:=by
 induction rs with
 | nil=>rfl
 | cons r l ih=>
  rw [List.map_cons,bG,ih fun r hr=>h r (List.mem_cons_of_mem _ hr)]
  congr 1
  simp only [gW,av,TV.ren,(h r List.mem_cons_self).2.1 f g,Tok.ren]
theorem I3 {rs:List (Int × Int × Bs)} (hl:rs.length≤4) (h:∀r∈rs,sY r) (K:KX) (hK:∀qo:Bs,ik (rs.map gW) qo→K .normal (aj 18 cR (lT (rs.map gW) qo ((rs.map gW).length:Nat))) (lF qo.length) []):
    VWx Tryz.prog ae none 0 (am Tryz.prog kJ 0) (aj 18 cR (lT (rs.map gW) [] 0)) (lF 0) [] K:=by
  have hlen:(rs.map gW).length=rs.length:=List.length_map _
  refine bK (f:=kJ) (id:=0) (by kernel_rfl) 18 cR (fun s:Nat × Bs=>rs.length-s.1) (fun s=>lT (rs.map gW) s.2 (s.1:Int)) (fun s=>lF s.2.length) (fun s=>s.1≤rs.length∧BvR s.2∧s.2.length≤103*s.1) 0 1 (fun j _=>⟨Nat.le_refl _,Nat.le_refl _⟩)
    (fun e vs T=>e= .normal∧∃qo:Bs,ik (rs.map gW) qo∧vs=lT (rs.map gW) qo ((rs.map gW).length:Nat)∧T=lF qo.length) (fun s ⟨hj,hb,hn⟩=> ?_) (0, []) ⟨Nat.zero_le _, .nil,Nat.zero_le _⟩ K ?_
  rotate_left
  · rintro e vs T ⟨rfl,qo,hq,rfl,rfl⟩
    exact hK qo hq
  obtain ⟨j,o⟩:=s
  simp only at hj hb hn
  have hS:aQ Tryz.prog ae (aw [(tY,BL)]):=aE fun p hp=>by obtain rfl:=List.mem_singleton.1 hp;exact I2
  by_cases hlt:j<rs.length
  · have hr:=List.getElem?_eq_getElem hlt
    have hm:rs[j]∈rs:=List.getElem_mem hlt
    generalize rs[j]=r at hr hm
    obtain ⟨f,t,v⟩:=r
    obtain ⟨hf,hv,hvl⟩:=h _ hm
    refine aI ac aa hS ah (zB (rs.map gW) o v f t id (fun _=> []) j _) ?_
    refine aN (decide_eq_true (by rw [hlen];omega)) ⟨FZ.ix rfl (by simp [hr];rfl),⟨f,t,v,rfl,hf,hv,hvl⟩,fun qq hq=>⟨?_, ?_⟩⟩
    · have:=ew.appE (T:=⟨[.cells [.val (.int .i64 f), .val (.int .i64 t), .vec 1 v .none]], [(o.length,1,true)]⟩) (G:=ae) (k:=0) (c:=o.length) (bn:=true) (es:=o) (es2:=qq) (tok:= .none) (s:=12) (x:=14) rfl rfl (by have:=hq.2;omega)
      rw [show (o++qq).length=o.length+qq.length from List.length_append]
      exact this
    · rw [cf (by omega)]
      refine ⟨rfl,rfl,(j+1,o++qq),⟨hlt,hb.app hq.1,by rw [List.length_append];have:=hq.2;omega⟩,by show rs.length-(j+1)<rs.length-j;omega, .inr ⟨rfl, ?_⟩⟩
      show _=lT (rs.map gW) (o++qq) ((j+1:Nat):Int)
      simp only [lT,av,TV.ren,zW h,(hb.app hq.1) _ _,Tok.ren];rfl
  · obtain rfl:j=rs.length:=by omega
    refine aI ac aa hS ah (zB (rs.map gW) o [] 0 0 id (fun _=> []) rs.length _) (aH (decide_eq_false (by rw [hlen];omega)) ?_)
    exact ⟨rfl,rfl,rfl,o,⟨hb,by omega⟩,by simp only [lT,hlen],rfl⟩
theorem MA {rs:List (Int × Int × Bs)} (hl:rs.length≤4) (h:∀r∈rs,sY r):VCx Tryz.prog ae 0 kJ [.vec 3 (rs.map gW) .none] ⟨[], []⟩ fun x T' =>∃q,ik [] q∧x= .vec 1 q .none∧T' =⟨[], []⟩:=by
 refine VCx.keepQ 0 0 (Nat.le_refl _) (Nat.le_refl _) (ak ac aa ai (aL fun p hp=> ?_) (Mh (rs.map gW) _) ⟨rfl,⟨rfl,rfl,rfl,⟨rfl,trivial⟩,rfl,rfl,rfl⟩,fun qo hq=> ?_⟩)
 ·obtain rfl:=List.mem_singleton.1 hp
  exact aS (I3 hl h)
 ·exact ⟨qo,hq,hq.1.kp _,rfl⟩
end
section
open Go.RowKit Go.Deep Go.WideShapes Go.ChangeAt
set_option maxRecDepth 100000

theorem im {P:Program} {G:aK} {t t2:TypeId} {x:Nat} {a r:Int} (hu:P.underlying t=some (.int .i64)) (hr:IntKind.wrap .i64 (a.tdiv 8)=r):ax P G (.binOp .quo t (.tmp x) (.const (.int .i64 8)) t2) [(x, .val (.int .i64 a))] (.val (.int .i64 r)):=by
 subst hr
 refine ⟨?_⟩
 simp [bq,bb,bX,yG,tz,nT,ce,eqGuard,binOp,hu,tj]
 simp [bE,Op.intDiv]
 rfl
theorem I4:∀ro ys T K,FW ro ys T K→VCx Tryz.prog ae ro Me ys T K:=by
 intro ro ys T K h
 unfold FW at h
 split at h
 ·obtain ⟨hn,hk⟩:=h
  rename_i n
  exact VCx.liftPure ap (VCx.ofCalls rfl (VCalls.of_eq (us:= [.int .i64 n]) (fun w=>Gv n (by unfold f9 at hn;omega) w) _) fun _ _=>rfl) rfl (fun _ _=>rfl) hk
 ·exact h.elim
theorem I5 (a:Int) {n:Int} (hn:f9 n):VCx Tryz.prog ae 0 np [.agg [.val (.int .u32 a), .val (.int .i64 n)]] ⟨[], []⟩ fun x T' =>x= .agg [.val (.int .u32 (je a n)), .val (.int .i64 n)]∧T' =⟨[], []⟩:=by
 refine VCx.keepQ 0 0 (Nat.le_refl _) (Nat.le_refl _) (ak ac aa (aE fun p hp=>by obtain rfl:=List.mem_singleton.1 hp;exact I4) ah (Mj a n _) ?_)
 exact aH (decide_eq_false (by have:=hn.1;omega)) (aH (decide_eq_false (by have:=hn.2;omega)) ⟨hn,⟨rfl,rfl,trivial⟩,rfl,rfl⟩)
theorem I6:∀ro ys T K,o5 ro ys T K→VCx Tryz.prog ae ro np ys T K:=by
 intro ro ys T K h
 unfold o5 at h
 split at h
 ·obtain ⟨hn,hk⟩:=h
  exact VCx.liftPure ap (I5 _ hn) rfl (fun _ _=>rfl) hk
 ·exact h.elim
theorem s9:aQ Tryz.prog ae (aw [(np,o5)]):=aE fun p hp=>by obtain rfl:=List.mem_singleton.1 hp;exact I6
theorem qI {n q:Int} (h0:0≤n) (h1:n≤32) (h2:8*q≤n+7) (h3:n<8*q+1):IntKind.wrap .i64 (Int.tdiv (IntKind.wrap .i64 (n+7)) 8)=q:=by
 have e:IntKind.wrap .i64 (n+7)=n+7:=fj (by omega) (by omega)
 rw [e,Int.tdiv_eq_ediv_of_nonneg (by omega),fj (by omega) (by omega)]
 omega
theorem Ed {xs:List TV} {es:Bs} (he:BvR es) (hl:es.length≤5) (h:VCx Tryz.prog ae 0 kL xs ⟨[], []⟩ fun x T' =>Ga 1 es x T'):VCx Tryz.prog ae 0 kL xs ⟨[], []⟩ fun x T' =>∃q,vH q∧x= .vec 1 q .none∧T' =⟨[], []⟩:=
 (VCx.toVec he h).mono fun _ _ ⟨h1,h2⟩=>⟨es,⟨he,hl⟩,h1,h2⟩
theorem MB {a n:Int} (h:Bw a n):VCx Tryz.prog ae 0 kL [.agg [.val (.int .u32 a), .val (.int .i64 n)]] ⟨[], []⟩ fun x T' =>∃q,vH q∧x= .vec 1 q .none∧T' =⟨[], []⟩:=by
  obtain ⟨h0,h1⟩:=h
  have hc:f9 n:=⟨h0,h1⟩
  have hu:Tryz.prog.underlying 3=some (.int .i64):=by kernel_rfl
  by_cases c0:n<1
  · have ho:=fun x t2=>im (G:=ae) (t2:=t2) (x:=x) hu (qI (q:=0) h0 h1 (by omega) (by omega))
    exact Ed (es:= [[.val (.int .u8 _)]]) (fun _ _=>rfl) (Nat.le_of_ble_eq_true rfl) (ak ac aa s9 ah (IN a n _) ⟨hc,ho _ _, .inr (.inl ⟨_,rfl⟩)⟩)
  by_cases c1:n<9
  · have ho:=fun x t2=>im (G:=ae) (t2:=t2) (x:=x) hu (qI (q:=1) h0 h1 (by omega) (by omega))
    exact Ed (es:= [[.val (.int .u8 _)], [.val (.int .u8 _)]]) (fun _ _=>rfl) (Nat.le_of_ble_eq_true rfl) (ak ac aa s9 ah (IP a n _) ⟨hc,ho _ _,ho _ _, .inr (.inr rfl)⟩)
  by_cases c2:n<17
  · have ho:=fun x t2=>im (G:=ae) (t2:=t2) (x:=x) hu (qI (q:=2) h0 h1 (by omega) (by omega))
    exact Ed (es:= [[.val (.int .u8 _)], [.val (.int .u8 _)], [.val (.int .u8 _)]]) (fun _ _=>rfl) (Nat.le_of_ble_eq_true rfl) (ak ac aa s9 ah (IQ a n _) ⟨hc,ho _ _,ho _ _,ho _ _, .inr (.inr rfl)⟩)
  by_cases c3:n<25
  · have ho:=fun x t2=>im (G:=ae) (t2:=t2) (x:=x) hu (qI (q:=3) h0 h1 (by omega) (by omega))
    exact Ed (es:= [[.val (.int .u8 _)], [.val (.int .u8 _)], [.val (.int .u8 _)], [.val (.int .u8 _)]]) (fun _ _=>rfl) (Nat.le_of_ble_eq_true rfl) (ak ac aa s9 ah (IR a n _) ⟨hc,ho _ _,ho _ _,ho _ _,ho _ _, .inr (.inr rfl)⟩)
  · have ho:=fun x t2=>im (G:=ae) (t2:=t2) (x:=x) hu (qI (q:=4) h0 h1 (by omega) (by omega))
    exact Ed (es:= [[.val (.int .u8 _)], [.val (.int .u8 _)], [.val (.int .u8 _)], [.val (.int .u8 _)], [.val (.int .u8 _)]]) (fun _ _=>rfl) (Nat.le_of_ble_eq_true rfl) (ak ac aa s9 ah (IS a n _) ⟨hc,ho _ _,ho _ _,ho _ _,ho _ _,ho _ _, .inr (.inr rfl)⟩)
theorem I7:∀ro ys T K,BO ro ys T K→VCx Tryz.prog ae ro kL ys T K:=by
 intro ro ys T K h
 unfold BO at h
 split at h
 ·obtain ⟨hd,hk⟩:=h
  exact VCx.liftSome rfl (MB hd) (fun q hq=>hq.1) fun q hq=>hk q hq
 ·exact h.elim
theorem I8 {ps:List Px} (hl:ps.length≤200) (h:∀p∈ps,0≤p.2∧p.2≤32) (K:KX) (hK:∀qo:Bs,jE (an ps) qo→K .normal (aj 18 cR (lU (an ps) qo ((an ps).length:Nat))) (lF qo.length) []):
    VWx Tryz.prog ae none 0 (am Tryz.prog kM 0) (aj 18 cR (lU (an ps) [] 0)) (lF 0) [] K:=by
  have hlen:(an ps).length=ps.length:=bw ps
  refine bK (f:=kM) (id:=0) (by kernel_rfl) 18 cR (fun s:Nat × Bs=>ps.length-s.1) (fun s=>lU (an ps) s.2 (s.1:Int)) (fun s=>lF s.2.length) (fun s=>s.1≤ps.length∧BvR s.2∧s.2.length≤5*s.1) 0 1 (fun j _=>⟨Nat.le_refl _,Nat.le_refl _⟩)
    (fun e vs T=>e= .normal∧∃qo:Bs,jE (an ps) qo∧vs=lU (an ps) qo ((an ps).length:Nat)∧T=lF qo.length) (fun s ⟨hj,hb,hn⟩=> ?_) (0, []) ⟨Nat.zero_le _, .nil,Nat.zero_le _⟩ K ?_
  rotate_left
  · rintro e vs T ⟨rfl,qo,hq,rfl,rfl⟩
    exact hK qo hq
  obtain ⟨j,o⟩:=s
  simp only at hj hb hn
  have hS:aQ Tryz.prog ae (aw [(kL,BO)]):=aE fun p hp=>by obtain rfl:=List.mem_singleton.1 hp;exact I7
  by_cases hlt:j<ps.length
  · have hr:=List.getElem?_eq_getElem hlt
    have hm:ps[j]∈ps:=List.getElem_mem hlt
    generalize ps[j]=r at hr hm
    obtain ⟨a,n⟩:=r
    refine aI ac aa hS ah (zC (an ps) o a n j _) ?_
    refine aN (decide_eq_true (by rw [hlen];omega)) ⟨lD.ix rfl (by simp [an,hr];rfl),h _ hm,fun qq hq=>⟨?_, ?_⟩⟩
    · have:=ew.appE (T:=⟨[.cells [.val (.int .u32 a), .val (.int .i64 n)]], [(o.length,1,true)]⟩) (G:=ae) (k:=0) (c:=o.length) (bn:=true) (es:=o) (es2:=qq) (tok:= .none) (s:=12) (x:=14) rfl rfl (by have:=hq.2;omega)
      rw [show (o++qq).length=o.length+qq.length from List.length_append]
      exact this
    · rw [cf (by omega)]
      refine ⟨rfl,rfl,(j+1,o++qq),⟨hlt,hb.app hq.1,by rw [List.length_append];have:=hq.2;omega⟩,by show ps.length-(j+1)<ps.length-j;omega, .inr ⟨rfl, ?_⟩⟩
      show _=lU (an ps) (o++qq) ((j+1:Nat):Int)
      simp only [lU,av,TV.ren,cd,(hb.app hq.1) _ _,Tok.ren];rfl
  · obtain rfl:j=ps.length:=by omega
    refine aI ac aa hS ah (zC (an ps) o 0 0 ps.length _) (aH (decide_eq_false (by rw [hlen];omega)) ?_)
    exact ⟨rfl,rfl,rfl,o,⟨hb,by rw [hlen];omega⟩,by simp only [lU,hlen],rfl⟩
theorem MC {ps:List Px} (hl:ps.length≤200) (h:∀p∈ps,0≤p.2∧p.2≤32):VCx Tryz.prog ae 0 kM [.vec 2 (an ps) .none] ⟨[], []⟩ fun x T' =>∃q,jE (an ps) q∧x= .vec 1 q .none∧T' =⟨[], []⟩:=by
 refine VCx.keepQ 0 0 (Nat.le_refl _) (Nat.le_refl _) (ak ac aa ai (aL fun p hp=> ?_) (Mi (an ps) _) ⟨rfl,⟨rfl,rfl,rfl,⟨rfl,trivial⟩,rfl,rfl,rfl⟩,fun qo hq=> ?_⟩)
 ·obtain rfl:=List.mem_singleton.1 hp
  exact aS (I8 hl h)
 ·exact ⟨qo,hq,hq.1.kp _,rfl⟩
theorem I9:∀ro ys T K,BP ro ys T K→VCx Tryz.prog ae ro kM ys T K:=by
 intro ro ys T K h
 unfold BP at h
 split at h
 ·obtain ⟨⟨ps,rfl,hl,hp⟩,hk⟩:=h
  refine VCx.argsLe (xs:= [.vec 2 (an ps) .none]) ⟨.vec _ _ _,trivial⟩ ?_
  exact VCx.liftSome (by simp only [av,TV.ren,cd,Tok.ren]) (MC hl hp) (fun q hq=>hq.1) fun q hq=>hk q hq
 ·exact h.elim
end
section
open Go.RowKit

theorem TVleL.app:∀{a b c d:List TV},TVleL a b→TVleL c d→TVleL (a++c) (b++d)
 | [], [],_,_,_,h=>h
 | _::_,_::_,_,_,h,k=>⟨h.1,TVleL.app h.2 k⟩
 | [],_::_,_,_,h,_=>h.elim
 | _::_, [],_,_,h,_=>h.elim
theorem TVleL.flat {α:Type} (f g:α→List TV):∀{l:List α},(∀a∈l,TVleL (f a) (g a))→TVleL (l.map f).flatten (l.map g).flatten
 | [],_=>trivial
 | a::l,h=>by
  rw [List.map_cons,List.map_cons,List.flatten_cons,List.flatten_cons]
  exact (h a List.mem_cons_self).app (TVleL.flat f g fun b hb=>h b (List.mem_cons_of_mem _ hb))
theorem TVle.rows {α:Type} (size:Nat) (f g:α→List TV) {l:List α} (tok:Tok) (h:∀a∈l,TVleL (f a) (g a)):TVle (.vec size (l.map f) tok) (.vec size (l.map g) .none):=by
 intro q w u hu
 rcases hu.vec_inv with ⟨rfl,h0,h1⟩ | ⟨b,o,c,us,rfl,f1,f2,f3,f4,f5,f6,f7,f8⟩ | ⟨a,rfl,h0,h1⟩
 ·obtain rfl:l= []:=List.map_eq_nil_iff.1 h0
  exact .nil trivial
 ·have hf:=TVleL.flat f g h
  refine .mk_vec (by simp) (by simpa using f1) f2 (fun e he=> ?_) trivial (hf.vrs f5) (fun j hj=>f6 j (by rw [hf.at.1];exact hj)) f7 f8
  obtain ⟨a,ha,rfl⟩:=List.mem_map.1 he
  rw [←(h a ha).at.1]
  exact f3 _ (List.mem_map.2 ⟨a,ha,rfl⟩)
 ·obtain rfl:l= []:=List.map_eq_nil_iff.1 h0
  exact .odd a trivial
end
section
open Go.RowKit Go.Deep Go.WideShapes Go.ChangeAt
set_option maxRecDepth 100000

theorem GS:aQ Tryz.prog ae (aw [(gE,t6)]):=aE fun p hp=>by obtain rfl:=List.mem_singleton.1 hp;exact zV
theorem Ja:∀ro ys T K,BM ro ys T K→VCx Tryz.prog ae ro kJ ys T K:=by
 intro ro ys T K h
 unfold BM at h
 split at h
 ·obtain ⟨⟨rs,hle,hl,hr⟩,hk⟩:=h
  refine VCx.argsLe (xs:= [.vec 3 (rs.map gW) .none]) ⟨hle _,trivial⟩ ?_
  exact VCx.liftSome (by simp only [av,TV.ren,zW hr,Tok.ren]) (MA hl hr) (fun q hq=>hq.1) fun q hq=>hk q hq
 ·exact h.elim
theorem zX (b:Bool):∀ro ys T K,t7 b ro ys T K→VCx Tryz.prog ae ro xI ys T K:=by
 intro ro ys T K h
 unfold t7 at h
 split at h
 ·obtain ⟨⟨a,rfl,hn,rfl⟩,hk⟩:=h
  exact VCx.liftPure ap (zn hn) (by simp only [av,TV.ren,AtV.ren']) (fun _ _=>rfl) hk
 ·exact h.elim
theorem my (b:Bool):∀ro ys T K,il b ro ys T K→VCx Tryz.prog ae ro gi ys T K:=by
 intro ro ys T K h
 unfold il at h
 split at h
 ·obtain ⟨⟨a,c,h1,h2,hn,rfl⟩,hk⟩:=h
  refine VCx.argsLe (xs:= [.agg a.cells, .agg c.cells]) ⟨.agg h1, .agg h2,trivial⟩ ?_
  exact VCx.liftPure ap (zo (b:=c) hn) (by simp only [av,TV.ren,AtV.ren']) (fun _ _=>rfl) hk
 ·exact h.elim
theorem Jb (b:Bool):∀ro ys T K,BQ b ro ys T K→VCx Tryz.prog ae ro gi ys T K:=by
 intro ro ys T K h
 unfold BQ at h
 split at h
 ·exact my b _ _ _ _ h
 ·exact h.elim
theorem Od (l:List ((Int × Int × Bs) × TV)) (hl:l.length≤4) (h:∀a∈l,sY a.1∧TVle a.2 (.vec 1 a.1.2.2 .none)):lE (l.map fun a=> [.val (.int .i64 a.1.1), .val (.int .i64 a.1.2.1),a.2]):=
 ⟨l.map (·.1),fun tok=>by rw [List.map_map];exact TVle.rows 3 (fun a:(Int × Int × Bs) × TV=> [.val (.int .i64 a.1.1), .val (.int .i64 a.1.2.1),a.2]) (fun a=>gW a.1) tok (fun a ha=>show TVleL [.val (.int .i64 a.1.1), .val (.int .i64 a.1.2.1),a.2] [.val (.int .i64 a.1.1), .val (.int .i64 a.1.2.1), .vec 1 a.1.2.2 .none] from ⟨.refl _, .refl _,(h a ha).2,trivial⟩),by rw [List.length_map];exact hl,fun r hr=>by
  obtain ⟨a,ha,rfl⟩:=List.mem_map.1 hr
  exact (h a ha).1⟩
theorem MD {o:Value} {X:TV} {v2 v3:Bs} (h2:TVle X (.vec 1 v2 .none)) (b2:BvR v2∧v2.length≤100) (b3:BvR v3∧v3.length≤100):lE [[.val (.int .i64 64), .val (.int .i64 1), .vec 1 [[.val o]] .full], [.val (.int .i64 64), .val (.int .i64 2),X], [.val (.int .i64 64), .val (.int .i64 3), .vec 1 v3 .none]]:=
 Od [((64,1, [[.val o]]), .vec 1 [[.val o]] .full),((64,2,v2),X),((64,3,v3), .vec 1 v3 .none)] (Nat.le_of_ble_eq_true rfl) (List.forall_mem_cons.2 ⟨⟨⟨.inl rfl, .one _,by simp⟩, .vec _ _ _⟩,List.forall_mem_cons.2 ⟨⟨⟨.inl rfl,b2⟩,h2⟩,List.forall_mem_cons.2 ⟨⟨⟨.inl rfl,b3⟩, .refl _⟩,fun _ h=>nomatch h⟩⟩⟩)
theorem ME {o:Value} {X:TV} {v2 v3 v4:Bs} (h2:TVle X (.vec 1 v2 .none)) (b2:BvR v2∧v2.length≤100) (b3:BvR v3∧v3.length≤100) (b4:BvR v4∧v4.length≤100):lE [[.val (.int .i64 64), .val (.int .i64 1), .vec 1 [[.val o]] .full], [.val (.int .i64 64), .val (.int .i64 2),X], [.val (.int .i64 64), .val (.int .i64 3), .vec 1 v3 .none], [.val (.int .i64 128), .val (.int .i64 4), .vec 1 v4 .none]]:=
 Od [((64,1, [[.val o]]), .vec 1 [[.val o]] .full),((64,2,v2),X),((64,3,v3), .vec 1 v3 .none),((128,4,v4), .vec 1 v4 .none)] (Nat.le_of_ble_eq_true rfl) (List.forall_mem_cons.2 ⟨⟨⟨.inl rfl, .one _,by simp⟩, .vec _ _ _⟩,List.forall_mem_cons.2 ⟨⟨⟨.inl rfl,b2⟩,h2⟩,List.forall_mem_cons.2 ⟨⟨⟨.inl rfl,b3⟩, .refl _⟩,List.forall_mem_cons.2 ⟨⟨⟨.inr rfl,b4⟩, .refl _⟩,fun _ h=>nomatch h⟩⟩⟩⟩)
theorem zY {k:Int} {q:Bs} (h:dA (.val (.slice none 0 0)) k q):BvR q∧q.length≤100:=⟨h.1,by have:=h.2;simp only [jh] at this;omega⟩
theorem OC:RowI Tryz.prog 33 3 1:=⟨Tryz.underlying33,⟨(Tryz.prog.info? 3).getD default,((Tryz.prog.info? 3).getD default).zero.getD default,by kernel_rfl,by kernel_rfl,Nat.le_of_ble_eq_true (by kernel_rfl),by kernel_rfl,by kernel_rfl⟩,by omega⟩
theorem Jc {a:AtV} (hl:a.p.length≤16) (K:KX) (hK:∀qo:Bs,vG a qo→K .normal (aj 56 rg (o7 a qo (iV a.p).length)) (rh a) []):
    VWx Tryz.prog ae none 0 (am Tryz.prog kK 0) (aj 56 rg (o7 a (Bv a) 0)) (rh a) [] K:=by
  have hlen:(iV a.p).length=a.p.length:=dv a.p
  refine bK (f:=kK) (id:=0) (by kernel_rfl) 56 rg (fun s:Nat × Bs=>a.p.length-s.1) (fun s=>o7 a s.2 (s.1:Int)) (fun _=>rh a) (fun s=>s.1≤a.p.length∧BvR s.2∧s.2.length≤2+4*s.1) 1 0 (fun j _=>⟨Nat.le_refl _,Nat.le_refl _⟩)
    (fun e vs T=>e= .normal∧∃qo:Bs,vG a qo∧vs=o7 a qo (iV a.p).length∧T=rh a) (fun s ⟨hj,hb,hn⟩=> ?_) (0,Bv a) ⟨Nat.zero_le _,fun _ _=>rfl,Nat.le_refl _⟩ K ?_
  rotate_left
  · rintro e vs T ⟨rfl,qo,hq,rfl,rfl⟩
    exact hK qo hq
  obtain ⟨j,o⟩:=s
  simp only at hj hb hn
  by_cases hlt:j<a.p.length
  · have hr:=List.getElem?_eq_getElem hlt
    generalize a.p[j]=z at hr
    refine aI ac aa GS ah (zD a o z j _) ?_
    refine aN (decide_eq_true (by rw [hlen];omega)) ⟨OC.ix rfl (by simp [iV,iT,hr]),⟨.inl rfl, .inr ⟨o, .none,rfl,hb,by omega⟩⟩,fun qq hq=> ?_⟩
    rw [cf (by omega)]
    exact ⟨rfl,rfl,(j+1,qq),⟨hlt,hq.1,by have:=hq.2;simp only [jh] at this;show qq.length≤2+4*(j+1);omega⟩,by show a.p.length-(j+1)<a.p.length-j;omega, .inl ⟨rfl,rfl⟩⟩
  · obtain rfl:j=a.p.length:=by omega
    refine aI ac aa GS ah (zD a o 0 a.p.length _) (aH (decide_eq_false (by rw [hlen];omega)) ?_)
    exact ⟨rfl,rfl,rfl,o,⟨hb,by omega⟩,by simp only [o7,hlen],rfl⟩
theorem MF {a:AtV} (h:cX a=true):VCx Tryz.prog ae 0 kK [.agg a.cells] ⟨[], []⟩ fun x T' =>∃q,vF q∧x= .vec 1 q .none∧T' =⟨[], []⟩:=by
 have hl:a.p.length≤16:=by
  have:=h
  simp only [cX,Bool.and_eq_true,decide_eq_true_eq] at this
  exact this.2.2.2.1
 have hS:aQ Tryz.prog ae (aw [(xI,t7 true),(gE,t6),(kJ,BM)]):=aE fun p hp=>by
  rcases List.mem_cons.1 hp with rfl | hp;exact zX _
  rcases List.mem_cons.1 hp with rfl | hp;exact zV
  obtain rfl:=List.mem_singleton.1 hp;exact Ja
 have p0:eC (.val (.slice none 0 0)) 4:=⟨.inr rfl, .inl rfl⟩
 have fin:∀(qq L:Bs) (T:VT),ik L qq→∃q,vF q∧(TV.vec 1 qq .none).ren (au 0) (au 0)= .vec 1 q .none∧T.keep 0 0=⟨[], []⟩:=fun qq L T hq=>⟨qq,hq,by simp only [TV.ren,hq.1 (au 0) (au 0),Tok.ren],by simp [VT.keep]⟩
 refine VCx.keepQ 0 0 (Nat.le_refl _) (Nat.le_refl _) (ak ac aa hS (aL fun p hp=> ?_) (Mk a true _) ⟨⟨a,rfl,by omega,h.symm⟩,aH rfl (aF (fun c=>⟨rfl,⟨rfl,rfl,rfl,trivial,rfl,rfl,rfl⟩,fun qo hq=>⟨p0,fun qq hq2=>⟨⟨rfl,rfl,trivial⟩,aF (fun c2=>⟨p0,fun q7 hq7=>⟨FZ.appF (es2:= [_]) rfl (Nat.le_of_ble_eq_true rfl),ME (.refl _) hq (zY hq2) (zY hq7),fun q9 hq9=>fin _ _ _ hq9⟩⟩) (fun c2=>⟨MD (.refl _) hq (zY hq2),fun q9 hq9=>fin _ _ _ hq9⟩)⟩⟩⟩) (fun c=>⟨p0,fun qq hq2=>⟨⟨rfl,rfl,trivial⟩,aF (fun c2=>⟨p0,fun q7 hq7=>⟨FZ.appF (es2:= [_]) rfl (Nat.le_of_ble_eq_true rfl),ME (.nil 1) ⟨.nil,Nat.zero_le _⟩ (zY hq2) (zY hq7),fun q9 hq9=>fin _ _ _ hq9⟩⟩) (fun c2=>⟨MD (.nil 1) ⟨.nil,Nat.zero_le _⟩ (zY hq2),fun q9 hq9=>fin _ _ _ hq9⟩)⟩⟩))⟩)
 obtain rfl:=List.mem_singleton.1 hp
 exact qL (Jc hl)
theorem Jd:∀ro ys T K,BN ro ys T K→VCx Tryz.prog ae ro kK ys T K:=by
 intro ro ys T K h
 unfold BN at h
 split at h
 ·obtain ⟨⟨a,rfl,hg⟩,hk⟩:=h
  exact VCx.liftSome (by simp only [av,TV.ren,AtV.ren']) (MF hg) (fun q hq=>hq.1) fun q hq=>hk q hq
 ·exact h.elim
end
section
open Go.RowKit Go.Deep Go.WideShapes Go.ChangeAt
set_option maxRecDepth 100000

section
variable {P:Program} {G:aK} {t e:TypeId} {n:Nat}
theorem RowI.appL (h:RowI P t e n) {T:VT} {k:Nat} {bn:Bool} {es es2:List (List TV)} {tok:Tok} {s x:Nat} (hk:T.tails[k]?=some (es.length,n,bn)) (hne:Nat.beq s x=false) (hl:es.length+es2.length≤100000000):
  aB P G 0 T (.call ⟨.builtin .append, #[.tmp s, .tmp x], #[t,t]⟩) [(s, .vec n es (.tail k es.length)),(x, .vec n es2 tok)] (.vec n (es++es2) (.tail k (es++es2).length)) {T with tails:=T.tails.set k ((es++es2).length,n,bn)}:=by
 rw [List.length_append];exact h.appE hk hne hl
end
theorem MG (w n:List Px) (x:AtV) (f g:Nat→Option Nat):av f g (aV (an w) x (an n))=aV (an w) x (an n):=dm ⟨w,x,n⟩ f g
theorem AtV.le_refl (a:AtV):TVleL a.cells a.cells:=⟨.refl _, .refl _, .refl _, .refl _, .refl _,trivial⟩
theorem Je {u:UpV} (hu:kI u) (hg:dO u=true):VCx Tryz.prog ae 0 xK [.agg u.cells] ⟨[], []⟩ fun x T' =>∃q,vI u.cells q∧x= .vec 1 q .none∧T' =⟨[], []⟩:=by
 obtain ⟨hw,hn,hp,hpi⟩:=hu
 have hgd:∀p∈u.w++u.n,0≤p.2∧p.2≤32:=by
  unfold dO at hg
  have h:=(Bool.and_eq_true _ _▸hg).1
  rw [List.all_eq_true] at h
  exact fun p hp=>(xp (h p hp)).2.1
 have hS:aQ Tryz.prog ae (aw [(kM,BP),(kK,BN),(gE,BK)]):=aE fun p hp=>by
  rcases List.mem_cons.1 hp with rfl | hp;exact I9
  rcases List.mem_cons.1 hp with rfl | hp;exact Jd
  obtain rfl:=List.mem_singleton.1 hp;exact I1
 have lw:=bw u.w
 have ln:=bw u.n
 have d1:pM (an u.w):=⟨u.w,rfl,by omega,fun p hp=>hgd p (List.mem_append.2 (.inl hp))⟩
 have d2:pM (an u.n):=⟨u.n,rfl,by omega,fun p hp=>hgd p (List.mem_append.2 (.inr hp))⟩
 have p0:eC (.val (.slice none 0 0)) 2:=⟨.inl rfl, .inl rfl⟩
 have fin:∀(q:Bs) (n:Nat) (T:VT),BvR q→q.length≤4077→∃q',vI u.cells q' ∧(TV.vec 1 q (.tail 1 n)).ren (au 0) (au 0)= .vec 1 q' .none∧T.keep 0 0=⟨[], []⟩:=fun q n T h1 h2=>⟨q,⟨h1,h2⟩,by simp only [TV.ren,h1 (au 0) (au 0)];rfl,by simp [VT.keep]⟩
 refine VCx.keepQ 0 0 (Nat.le_refl _) (Nat.le_refl _) (ak ac aa hS ah (Ml (an u.w) (an u.n) u.a _) ⟨d1,fun qq hq=>aF (fun c=> ?_) (fun c=> ?_)⟩)
 ·have hq2:=hq.2
  have hc:=of_decide_eq_true c
  have ha:cX u.a=true:=by
   unfold dO at hg
   have h:=(Bool.and_eq_true _ _▸hg).2
   rw [decide_eq_true (by rw [ln] at hc;exact hc)] at h
   exact h
  refine ⟨⟨u.a,rfl,ha⟩,fun q6 h6=>⟨⟨rfl,p0⟩,fun q8 h8=> ?_⟩⟩
  have l6:=h6.2
  have l8:=h8.2
  simp only [jh] at l8
  refine ⟨ew.appL (T:=⟨[_], [(_,1,false)]⟩) (k:=0) rfl rfl (by omega),⟨rfl, .inl rfl, .inr ⟨_,_,rfl,h8.1.app hq.1,by rw [List.length_append];omega⟩⟩,fun q10 h10=> ?_⟩
  have l10:=h10.2
  simp only [jh,List.length_append] at l10
  refine ⟨ew.appL (T:=⟨[_], [(_,1,false),(_,1,false)]⟩) (k:=1) rfl rfl (by omega),d2,fun q12 h12=> ?_⟩
  have l12:=h12.2
  exact ⟨ew.appL (T:=⟨[_], [(_,1,false),(_,1,false)]⟩) (k:=1) rfl rfl (by rw [List.length_append];omega),fin _ _ _ ((h10.1.app h6.1).app h12.1) (by rw [List.length_append,List.length_append];omega)⟩
 ·have hq2:=hq.2
  refine ⟨⟨rfl,p0⟩,fun q8 h8=> ?_⟩
  have l8:=h8.2
  simp only [jh] at l8
  refine ⟨ew.appL (T:=⟨[_], [(_,1,false)]⟩) (k:=0) rfl rfl (by omega),⟨rfl, .inl rfl, .inr ⟨_,_,rfl,h8.1.app hq.1,by rw [List.length_append];omega⟩⟩,fun q10 h10=> ?_⟩
  have l10:=h10.2
  simp only [jh,List.length_append] at l10
  refine ⟨ew.appN (T:=⟨[_], [(_,1,false),(_,1,false)]⟩) (k:=1) rfl rfl (by omega),d2,fun q12 h12=> ?_⟩
  have l12:=h12.2
  exact ⟨ew.appL (T:=⟨[_], [(_,1,false),(_,1,false)]⟩) (k:=1) rfl rfl (by omega),fin _ _ _ (h10.1.app h12.1) (by rw [List.length_append];omega)⟩
theorem Jf:∀ro ys T K,BU ro ys T K→VCx Tryz.prog ae ro xK ys T K:=by
 intro ro ys T K h
 unfold BU at h
 split at h
 ·obtain ⟨⟨u,rfl,hu,hg⟩,hk⟩:=h
  exact VCx.liftSome (by simp only [av,TV.ren,dm]) (Je hu hg) (fun q hq=>hq.1) fun q hq=>hk q hq
 ·exact h.elim
theorem Jg:∀ro ys T K,BS ro ys T K→VCx Tryz.prog ae ro FU ys T K:=by
 intro ro ys T K h
 unfold BS at h
 split at h
 ·exact DC _ _ _ _ h
 ·exact h.elim
theorem Jh {ps:List Px} {w n:List Px} {x:AtV} (hl:ps.length≤1000) (hp:∀p∈ps,gg p.1 p.2) (K:KX) (hK:bif (ps.all fun p=>dN p.1 p.2) then K .normal (aj 32 nq (jm (an ps) (.tail 0 (an ps).length) (an ps).length)) (ri (an w) x (an n) [((an ps).length,2,false)]) [] else ∀(jj:Int) (oo:List VO),K .ret (aj 32 nq (jm (an ps) (.tail 0 (an ps).length) jj)) ⟨oo, [((an ps).length,2,false)]⟩ []):
    VWx Tryz.prog ae none 0 (am Tryz.prog kN 0) (aj 32 nq (jm (an ps) (.tail 0 (an ps).length) 0)) (ri (an w) x (an n) [((an ps).length,2,false)]) [] K:=by
  have hlen:=bw ps
  have hS:aQ Tryz.prog ae (aw [(FU,BS)]):=aE fun p hp=>by obtain rfl:=List.mem_singleton.1 hp;exact Jg
  refine bK (f:=kN) (id:=0) (by kernel_rfl) 32 nq (fun j:Nat=>ps.length-j) (fun j:Nat=>jm (an ps) (.tail 0 (an ps).length) (j:Int)) (fun _=>ri (an w) x (an n) [((an ps).length,2,false)]) (fun j=>j≤ps.length∧(ps.take j).all (fun p=>dN p.1 p.2)=true) 1 1 (fun j _=>⟨Nat.le_refl _,Nat.le_refl _⟩)
    (fun e vs T=>((ps.all fun p=>dN p.1 p.2)=true∧T=ri (an w) x (an n) [((an ps).length,2,false)]∧e= .normal∧vs=jm (an ps) (.tail 0 (an ps).length) (an ps).length)∨((ps.all fun p=>dN p.1 p.2)=false∧e= .ret∧∃(jj:Int) (oo:List VO),T=⟨oo, [((an ps).length,2,false)]⟩∧vs=jm (an ps) (.tail 0 (an ps).length) jj)) (fun j ⟨hj,ht⟩=> ?_) 0 ⟨Nat.zero_le _,rfl⟩ K ?_
  rotate_left
  · rintro e vs T (⟨h1,rfl,rfl,rfl⟩ | ⟨h1,rfl,jj,oo,rfl,rfl⟩)
    · rw [h1,cond_true] at hK;exact hK
    · rw [h1,cond_false] at hK;exact hK jj oo
  by_cases hlt:j<ps.length
  · have hr:=List.getElem?_eq_getElem hlt
    have hm:ps[j]∈ps:=List.getElem_mem hlt
    generalize ps[j]=p at hr hm
    refine aI ac aa hS ah (zE (an w) (an n) (an ps) x (.tail 0 (an ps).length) [((an ps).length,2,false)] p.1 p.2 j _) ?_
    refine aN (decide_eq_true (by rw [hlen];omega)) ⟨lD.ix rfl (by simp [an,hr];rfl),hp p hm, ?_⟩
    cases hg:dN p.1 p.2 with
    | true=>
      refine aH rfl ?_
      rw [cf (by omega)]
      refine ⟨rfl,rfl,j+1,⟨hlt, ?_⟩,by show ps.length-(j+1)<ps.length-j;omega, .inr ⟨?_, ?_⟩⟩
      · rw [List.take_add_one,hr,List.all_append,ht]
        simp [hg]
      · simp only [VT.keep,List.take_succ_cons,List.take_zero,List.map_cons,List.map_nil,VO.ren,MG];rfl
      · simp only [jm,av,TV.ren,cd,Tok.ren];rfl
    | false=>
      refine aN rfl ⟨rfl,rfl, .inr ⟨?_,rfl,_,_,rfl,rfl⟩⟩
      rw [List.all_eq_false]
      exact ⟨p,hm,by rw [hg];decide⟩
  · obtain rfl:j=ps.length:=by omega
    rw [List.take_length] at ht
    refine aI ac aa hS ah (zE (an w) (an n) (an ps) x (.tail 0 (an ps).length) [((an ps).length,2,false)] 0 0 ps.length _) (aH (decide_eq_false (by rw [hlen];omega)) ?_)
    exact ⟨rfl,rfl, .inl ⟨ht,rfl,rfl,by simp only [jm,hlen]⟩⟩
theorem MH {u:UpV} (hu:kI u):VCx Tryz.prog ae 0 kN [.agg u.cells] ⟨[], []⟩ fun x T' =>x= .val (.bool (dO u))∧T' =⟨[], []⟩:=by
 obtain ⟨hw,hn,hp,hpi⟩:=hu
 have lw:=bw u.w
 have ln:=bw u.n
 have hS:aQ Tryz.prog ae (aw [(gi,BQ (decide (u.a=bm))),(xI,t7 (cX u.a))]):=aE fun p hp=>by
  rcases List.mem_cons.1 hp with rfl | hp;exact Jb _
  obtain rfl:=List.mem_singleton.1 hp;exact zX _
 have fin:∀(q:Bool) (T:VT),dO u=q→((TV.val (.bool q)).ren (au 0) (au 0)= .val (.bool (dO u))∧T.keep 0 0=⟨[], []⟩):=fun b T h=>⟨by rw [h];rfl,by simp [VT.keep]⟩
 have hap:=jS u.w u.n
 refine VCx.keepQ 0 0 (Nat.le_refl _) (Nat.le_refl _) (ak ac aa hS (aL fun p hp=> ?_) (Mm (an u.w) (an u.n) (an u.w++an u.n) u.a ((u.w++u.n).all fun p=>dN p.1 p.2) (cX u.a) (decide (u.a=bm)) _) ⟨lD.appF (objs:= [_]) (tl:= []) (es:= []) (es2:=an u.w) rfl (by simp;omega),⟨rfl,rfl,trivial⟩,lD.appL (T:=⟨[_], [(_,2,false)]⟩) (k:=0) rfl rfl (by omega),rfl,⟨rfl,rfl,rfl,trivial,rfl,rfl,rfl⟩, ?_⟩)
 ·obtain rfl:=List.mem_singleton.1 hp
  refine aS fun K hK=> ?_
  rw [hap] at hK ⊢
  exact Jh (by rw [List.length_append];omega) hpi K hK
 ·cases hg:(u.w++u.n).all fun p=>dN p.1 p.2 with
  | false=>exact aH rfl fun jj oo=>fin false _ (by unfold dO;rw [hg];rfl)
  | true=>
   refine aN rfl ?_
   rw [nK,ln]
   refine aF (fun c=>⟨⟨u.a,bm,AtV.le_refl _,⟨.refl _, .nil 1, .refl _, .refl _, .refl _,trivial⟩,hp,rfl⟩,fin _ _ ?_⟩) (fun c=>⟨⟨u.a,rfl,hp,rfl⟩,fin _ _ ?_⟩)
   ·have:=of_decide_eq_true c
    unfold dO;rw [hg,decide_eq_false (by omega)];rfl
   ·have:=of_decide_eq_false c
    unfold dO;rw [hg,decide_eq_true (by omega)];rfl
theorem Ji (b:Bool):∀ro ys T K,BT b ro ys T K→VCx Tryz.prog ae ro kN ys T K:=by
 intro ro ys T K h
 unfold BT at h
 split at h
 ·obtain ⟨⟨u,rfl,hu,rfl⟩,hk⟩:=h
  exact VCx.liftPure ap (MH hu) (by simp only [av,TV.ren,dm]) (fun _ _=>rfl) hk
 ·exact h.elim
theorem MI {u:UpV} (hu:kI u):VCx Tryz.prog ae 0 re [.agg u.cells] ⟨[], []⟩ fun x T' =>∃z:Int,z≤4077∧x= .val (.int .i64 z)∧T' =⟨[], []⟩:=by
 have hS:aQ Tryz.prog ae (aw [(kN,BT (dO u)),(xK,BU)]):=aE fun p hp=>by
  rcases List.mem_cons.1 hp with rfl | hp;exact Ji _
  obtain rfl:=List.mem_singleton.1 hp;exact Jf
 refine VCx.keepQ 0 0 (Nat.le_refl _) (Nat.le_refl _) (ak ac aa hS ah (Mn (an u.w) (an u.n) u.a (dO u) _) ⟨⟨u,rfl,hu,rfl⟩, ?_⟩)
 cases hg:dO u with
 | false=>exact aN rfl ⟨0,by omega,rfl,by simp [VT.keep]⟩
 | true=>exact aH rfl ⟨⟨u,rfl,hu,hg⟩,fun qq hq=>⟨(qq.length:Int),by have:=hq.2;omega,rfl,by simp [VT.keep]⟩⟩
theorem zZ:∀ro ys T K,ub ro ys T K→VCx Tryz.prog ae ro re ys T K:=by
 intro ro ys T K h
 unfold ub at h
 split at h
 ·obtain ⟨⟨u,h1,hu⟩,hk⟩:=h
  refine VCx.argsLe (xs:= [.agg u.cells]) ⟨.agg h1,trivial⟩ ?_
  refine (VCx.lift (xs:= [.agg u.cells]) (T:=T) [] [] ap List.nodup_nil List.nodup_nil (by simp) (by simp) (by simp) (by simp only [av,TV.ren,dm]) (by rw [VT.give_nil];exact MI hu) (fun _ _ _=>⟨Nat.zero_le _,Nat.zero_le _⟩)).mono ?_
  rintro z T' ⟨y,T'',⟨q,hq,rfl,rfl⟩,rfl,rfl⟩
  have hb:T.back [] [] ⟨[], []⟩=T:=by rw [VT.back_nil];cases T;simp
  rw [hb]
  exact hk q hq
 ·exact h.elim
theorem MJ {ps:List Px} (hl:ps.length≤2000000):VCx Tryz.prog ae 0 lR [.vec 2 (an ps) .none, .vec 2 (an ps) .none] ⟨[], []⟩ fun x T' =>x= .val (.bool true)∧T' =⟨[], []⟩:=by
  have hlen:=bw ps
  refine VCx.keepQ 0 0 (Nat.le_refl _) (Nat.le_refl _) (ak ac aa ai (aL fun p hp=> ?_) (Mo (an ps) (an ps) _) ?_)
  · obtain rfl:=List.mem_singleton.1 hp
    refine aS fun K hK=> ?_
    refine bK (f:=lR) (id:=0) (by kernel_rfl) 26 xU (fun j:Nat=>ps.length-j) (fun j:Nat=>uc (an ps) (an ps) (j:Int)) (fun _=>⟨[], []⟩) (fun j=>j≤ps.length) 0 0 (fun j _=>⟨Nat.le_refl _,Nat.le_refl _⟩)
      (fun e vs T=>T=⟨[], []⟩∧e= .normal∧vs=uc (an ps) (an ps) (an ps).length) (fun j hj=> ?_) 0 (Nat.zero_le _) K ?_
    rotate_left
    · rintro e vs T ⟨rfl,rfl,rfl⟩
      exact hK
    by_cases hlt:j<ps.length
    · have hr:=List.getElem?_eq_getElem hlt
      generalize ps[j]=p at hr
      refine aI ac aa ai ah (zF (an ps) (an ps) p.1 p.2 p.1 p.2 j _) ?_
      refine aN (decide_eq_true (by rw [hlen];omega)) ⟨lD.ix rfl (by simp [an,hr];rfl),lD.ix rfl (by simp [an,hr];rfl),aH (by simp [aG,ar,dh,ct]) ?_⟩
      rw [cf (by omega)]
      exact ⟨rfl,rfl,j+1,hlt,by show ps.length-(j+1)<ps.length-j;omega, .inl ⟨rfl,rfl⟩⟩
    · obtain rfl:j=ps.length:=by omega
      exact aI ac aa ai ah (zF (an ps) (an ps) 0 0 0 0 ps.length _) (aH (decide_eq_false (by rw [hlen];omega)) ⟨rfl,rfl,rfl,rfl,by simp only [uc,hlen]⟩)
  · rw [lg]
    exact aH (by simp) ⟨rfl,⟨rfl,rfl,rfl,trivial,rfl,rfl,rfl⟩,rfl,rfl⟩
theorem Jj:∀ro ys T K,BV ro ys T K→VCx Tryz.prog ae ro lR ys T K:=by
 intro ro ys T K h
 unfold BV at h
 split at h
 ·obtain ⟨⟨ps,rfl,rfl,hl⟩,hk⟩:=h
  refine VCx.argsLe (xs:= [.vec 2 (an ps) .none, .vec 2 (an ps) .none]) ⟨.vec _ _ _, .vec _ _ _,trivial⟩ ?_
  exact VCx.liftPure ap (MJ hl) (by simp only [av,TV.ren,cd,Tok.ren]) (fun _ _=>rfl) hk
 ·exact h.elim
theorem MK {u:UpV} (h1:u.w.length≤2000000) (h2:u.n.length≤2000000) (h3:u.a.p.length≤9223372036854775807):VCx Tryz.prog ae 0 xL [.agg u.cells, .agg u.cells] ⟨[], []⟩ fun x T' =>x= .val (.bool true)∧T' =⟨[], []⟩:=by
 have hS:aQ Tryz.prog ae (aw [(lR,BV),(gi,il true)]):=aE fun p hp=>by
  rcases List.mem_cons.1 hp with rfl | hp;exact Jj
  obtain rfl:=List.mem_singleton.1 hp;exact my _
 exact VCx.keepQ 0 0 (Nat.le_refl _) (Nat.le_refl _) (ak ac aa hS ah (Mp (an u.w) (an u.n) (an u.w) (an u.n) u.a u.a _) ⟨⟨u.w,rfl,rfl,h1⟩,⟨u.n,rfl,rfl,h2⟩,⟨u.a,u.a,AtV.le_refl _,AtV.le_refl _,h3,(decide_eq_true rfl).symm⟩,rfl,by simp [VT.keep]⟩)
theorem Jk:∀ro ys T K,BW ro ys T K→VCx Tryz.prog ae ro xL ys T K:=by
 intro ro ys T K h
 unfold BW at h
 split at h
 ·obtain ⟨⟨u,rfl,rfl,h1,h2,h3⟩,hk⟩:=h
  exact VCx.liftPure ap (MK h1 h2 h3) (by simp only [av,TV.ren,dm]) (fun _ _=>rfl) hk
 ·exact h.elim
end
section
open Go.RowKit Go.Deep Go.WideShapes Go.ChangeAt
set_option maxRecDepth 100000

theorem NM {u:UpV} {d:Ch} (hw:u.w.length≤60) (hn:u.n.length≤60) (hu:kI u) (hd:d.2.1.p.length≤9223372036854775807∧gg d.1.1 d.1.2):kI (bC u d).1:=by
  obtain ⟨h1,h2,h3,h4⟩:=hu
  have hpw:=fun p hp=>h4 p (List.mem_append.2 (.inl hp))
  have hpn:=fun p hp=>h4 p (List.mem_append.2 (.inr hp))
  unfold bC
  cases d.2.2
  · cases hb:(!u.n.isEmpty&& !decide (u.a=d.2.1))
    · refine ⟨h1,by show (u.n++ [d.1]).length≤100;rw [List.length_append,List.length_singleton];omega,hd.1,fun p hp=> ?_⟩
      rcases List.mem_append.1 hp with hp | hp
      · exact hpw p hp
      · rcases List.mem_append.1 hp with hp | hp
        · exact hpn p hp
        · obtain rfl:=List.mem_singleton.1 hp;exact hd.2
    · exact ⟨h1,h2,h3,h4⟩
  · refine ⟨by show (u.w++ [d.1]).length≤100;rw [List.length_append,List.length_singleton];omega,h2,h3,fun p hp=> ?_⟩
    rcases List.mem_append.1 hp with hp | hp
    · rcases List.mem_append.1 hp with hp | hp
      · exact hpw p hp
      · obtain rfl:=List.mem_singleton.1 hp;exact hd.2
    · exact hpn p hp
theorem ML {u:UpV} {d:Ch} (hw:u.w.length≤60) (hn:u.n.length≤60) (hu:kI u) (hd:d.2.1.p.length≤9223372036854775807∧gg d.1.1 d.1.2):VCx Tryz.prog ae 0 lS [.agg u.cells, .agg (ag d)] ⟨[], []⟩ fun x T' =>x= .tup [.agg (bC u d).1.cells, .val (.bool (bC u d).2)]∧T' =⟨[], []⟩:=by
 have hud:=NM hw hn hu hd
 obtain ⟨⟨a,z⟩,y,g⟩:=d
 have lw:=bw u.w
 have ln:=bw u.n
 have isE:∀l:List Px,l.isEmpty=decide ((l.length:Int)=0):=fun l=>by cases l<;>simp<;>omega
 have hwap:an u.w++ [cj (a,z)]=an (u.w++ [(a,z)]):=jS u.w [(a,z)]
 have hnap:an u.n++ [cj (a,z)]=an (u.n++ [(a,z)]):=jS u.n [(a,z)]
 have fin:∀(x:TV) (v:UpV) (b:Bool) (T:VT),bC u ((a,z),y,g)=(v,b)→x.ren (au 0) (au 0)= .agg v.cells→((TV.tup [x, .val (.bool b)]).ren (au 0) (au 0)= .tup [.agg (bC u ((a,z),y,g)).1.cells, .val (.bool (bC u ((a,z),y,g)).2)]∧T.keep 0 0=⟨[], []⟩):=fun x v b T h1 h2=>⟨by rw [h1];simp only [TV.ren,av,h2],by simp [VT.keep]⟩
 cases g with
 | true=>
  have hlk:bC u ((a,z),y,true)=(⟨u.w++ [(a,z)],u.a,u.n⟩,u.n.isEmpty):=rfl
  have hS:aQ Tryz.prog ae (aw [(re,ub)]):=aE fun p hp=>by obtain rfl:=List.mem_singleton.1 hp;exact zZ
  have hx:(TV.agg [.vec 2 (an u.w++ [cj (a,z)]) (.tail 0 (an u.w++ [cj (a,z)]).length), .val (.int .i64 u.a.o), .vec 1 (iV u.a.p) .none, .val (.int .u32 u.a.h), .val (.int .i64 u.a.m), .val (.bool u.a.hm), .vec 2 (an u.n) .none]).ren (au 0) (au 0)= .agg (UpV.cells ⟨u.w++ [(a,z)],u.a,u.n⟩):=by
   rw [hwap];simp only [UpV.cells,TV.ren,av,cd,dw,Tok.ren];rfl
  refine VCx.keepQ 0 0 (Nat.le_refl _) (Nat.le_refl _) (ak ac aa hS ah (IT (an u.w) (an u.w++ [cj (a,z)]) (an u.n) u.a y a z _) ⟨lD.appF (objs:= [_,_,_]) (tl:= []) (es:= []) (es2:=an u.w) rfl (by simp;omega),⟨rfl,rfl,trivial⟩,lD.appL (T:=⟨[_,_,_], [(_,2,false)]⟩) (k:=0) rfl rfl (by simp;omega), ?_⟩)
  rw [nK,ln]
  refine aF (fun c=>⟨⟨_, ?_,hud⟩,fun qz hq=>⟨⟨rfl,trivial,rfl,rfl,trivial⟩,fin _ _ _ _ ?_ hx⟩⟩) (fun c=>fin _ _ _ _ ?_ hx)
  ·rw [hlk,hwap]
   exact ⟨.vec _ _ _, .refl _, .refl _, .refl _, .refl _, .refl _, .refl _,trivial⟩
  ·rw [hlk,isE,c]
   exact congrArg _ (decide_eq_true (p:=qz≤4077) hq).symm
  ·rw [hlk,isE,c]
 | false=>
  have hS:aQ Tryz.prog ae (aw [(re,ub),(gi,il (decide (u.a=y)))]):=aE fun p hp=>by
   rcases List.mem_cons.1 hp with rfl | hp;exact zZ
   obtain rfl:=List.mem_singleton.1 hp;exact my _
  have hx:(TV.agg [.vec 2 (an u.w) .none, .val (.int .i64 y.o), .vec 1 (iV y.p) .none, .val (.int .u32 y.h), .val (.int .i64 y.m), .val (.bool y.hm), .vec 2 (an u.n++ [cj (a,z)]) (.tail 0 (an u.n++ [cj (a,z)]).length)]).ren (au 0) (au 0)= .agg (UpV.cells ⟨u.w,y,u.n++ [(a,z)]⟩):=by
   rw [hnap];simp only [UpV.cells,TV.ren,av,cd,dw,Tok.ren];rfl
  have hx0:(TV.agg u.cells).ren (au 0) (au 0)= .agg u.cells:=by simp only [TV.ren,dm]
  refine VCx.keepQ 0 0 (Nat.le_refl _) (Nat.le_refl _) (ak ac aa hS ah (IU (an u.w) (an u.n) (an u.n++ [cj (a,z)]) u.a y a z (decide (u.a=y)) _) ?_)
  refine aF (fun c=>⟨⟨u.a,y,AtV.le_refl _,AtV.le_refl _,hu.p,rfl⟩, ?_⟩) (fun c=> ?_)
  ·have hne:u.n.isEmpty=false:=by
    have:=of_decide_eq_true c
    rw [isE];exact decide_eq_false (by omega)
   cases hs:decide (u.a=y) with
   | false=>exact aN rfl (fin _ _ _ _ (by unfold bC;simp only [hne,hs];rfl) hx0)
   | true=>
    have hlk:bC u ((a,z),y,false)=(⟨u.w,y,u.n++ [(a,z)]⟩,u.w.isEmpty):=by unfold bC;simp only [hs,Bool.not_true,Bool.and_false];rfl
    refine aH rfl ⟨lD.appF (objs:= [_,_,_]) (tl:= []) (es:= []) (es2:=an u.n) rfl (by simp;omega),⟨rfl,rfl,trivial⟩,lD.appL (T:=⟨[_,_,_], [(_,2,false)]⟩) (k:=0) rfl rfl (by simp;omega), ?_⟩
    rw [nK,lw]
    refine aF (fun c=>⟨⟨_, ?_,hud⟩,fun qz hq=>⟨⟨rfl,trivial,rfl,rfl,trivial⟩,fin _ _ _ _ ?_ hx⟩⟩) (fun c=>fin _ _ _ _ ?_ hx)
    ·rw [hlk,hnap]
     exact ⟨.refl _, .refl _, .refl _, .refl _, .refl _, .refl _, .vec _ _ _,trivial⟩
    ·rw [hlk,isE,c]
     exact congrArg _ (decide_eq_true (p:=qz≤4077) hq).symm
    ·rw [hlk,isE,c]
  ·have hne:u.n.isEmpty=true:=by
    have:=of_decide_eq_false c
    rw [isE];exact decide_eq_true (by omega)
   have hlk:bC u ((a,z),y,false)=(⟨u.w,y,u.n++ [(a,z)]⟩,u.w.isEmpty):=by unfold bC;simp only [hne,Bool.not_true,Bool.false_and];rfl
   refine ⟨lD.appF (objs:= [_,_,_]) (tl:= []) (es:= []) (es2:=an u.n) rfl (by simp;omega),⟨rfl,rfl,trivial⟩,lD.appL (T:=⟨[_,_,_], [(_,2,false)]⟩) (k:=0) rfl rfl (by simp;omega), ?_⟩
   rw [nK,lw]
   refine aF (fun c=>⟨⟨_, ?_,hud⟩,fun qz hq=>⟨⟨rfl,trivial,rfl,rfl,trivial⟩,fin _ _ _ _ ?_ hx⟩⟩) (fun c=>fin _ _ _ _ ?_ hx)
   ·rw [hlk,hnap]
    exact ⟨.refl _, .refl _, .refl _, .refl _, .refl _, .refl _, .vec _ _ _,trivial⟩
   ·rw [hlk,isE,c]
    exact congrArg _ (decide_eq_true (p:=qz≤4077) hq).symm
   ·rw [hlk,isE,c]
theorem Jl (w:Bs) (a:AtV) (n:Bs) (ok:Bool):∀ro ys T K,o6 w a n ok ro ys T K→VCx Tryz.prog ae ro lS ys T K:=by
 intro ro ys T K h
 unfold o6 at h
 split at h
 ·obtain ⟨⟨u,d,h1,rfl,⟨h2,h3,h4⟩,h5,rfl,rfl,rfl,rfl⟩,hk⟩:=h
  refine VCx.argsLe (xs:= [.agg u.cells, .agg (ag d)]) ⟨.agg h1, .refl _,trivial⟩ ?_
  exact VCx.liftPure ap (ML h2 h3 h4 h5) (by simp only [av,TV.ren,dm,gU]) (fun f g=>by simp only [TV.ren,av,dm]) hk
 ·exact h.elim
end
section
open Go.RowKit Go.Deep Go.WideShapes Go.ChangeAt
set_option maxRecDepth 100000

def io (c:Ch):List Ch→List Ch
 | []=> [c]
 | d::l=>if cU d.1 c.1 then d::io c l else if d.1=c.1 then c::l else c::d::l
def cA (c:Ch):List Ch→Nat
 | []=>0
 | d::l=>if cU d.1 c.1 then cA c l+1 else 0
def pP (l:List Ch):Prop:=l.Pairwise fun x y=>cU x.1 y.1
theorem ru {c:Ch}:∀{O:List Ch},pP O→∀d,d∈io c O ↔ d=c∨(d∈O∧d.1≠c.1)
 | [],_,d=>by simp [io]
 | e::l,hs,d=>by
  obtain ⟨h1,h2⟩:=List.pairwise_cons.1 hs
  unfold io
  split
  ·rename_i hlt
   have hne:e.1≠c.1:=fun h=>cI _ (h▸hlt)
   rw [List.mem_cons,ru h2 d,List.mem_cons]
   constructor
   ·rintro (rfl | rfl | ⟨h3,h4⟩)
    ·exact .inr ⟨.inl rfl,hne⟩
    ·exact .inl rfl
    ·exact .inr ⟨.inr h3,h4⟩
   ·rintro (rfl | ⟨rfl | h3,h4⟩)
    ·exact .inr (.inl rfl)
    ·exact .inl rfl
    ·exact .inr (.inr ⟨h3,h4⟩)
  ·rename_i hlt
   split
   ·rename_i he
    rw [List.mem_cons,List.mem_cons]
    constructor
    ·rintro (rfl | h3)
     ·exact .inl rfl
     ·exact .inr ⟨.inr h3,fun h=>cI d.1 (by have:=h1 d h3;rw [he,←h] at this;exact this)⟩
    ·rintro (rfl | ⟨rfl | h3,h4⟩)
     ·exact .inl rfl
     ·exact absurd he h4
     ·exact .inr h3
   ·rename_i he
    have hgt:cU c.1 e.1:=Classical.byContradiction fun h=>he (jA hlt h)
    rw [List.mem_cons]
    constructor
    ·rintro (rfl | h3)
     ·exact .inl rfl
     ·refine .inr ⟨h3,fun h=> ?_⟩
      rcases List.mem_cons.1 h3 with rfl | h4
      ·exact he h
      ·have:=fZ hgt (h1 d h4)
       rw [h] at this;exact cI _ this
    ·rintro (rfl | ⟨h3,h4⟩)
     ·exact .inl rfl
     ·exact .inr h3
theorem xX {c:Ch}:∀{O:List Ch},pP O→pP (io c O)
 | [],_=>List.pairwise_singleton _ _
 | e::l,hs=>by
  obtain ⟨h1,h2⟩:=List.pairwise_cons.1 hs
  unfold io
  split
  ·rename_i hlt
   refine List.pairwise_cons.2 ⟨fun d hd=> ?_,xX h2⟩
   rcases (ru h2 d).1 hd with rfl | ⟨h3,_⟩
   ·exact hlt
   ·exact h1 d h3
  ·rename_i hlt
   split
   ·rename_i he
    exact List.pairwise_cons.2 ⟨fun d hd=>by have:=h1 d hd;rw [he] at this;exact this,h2⟩
   ·rename_i he
    have hgt:cU c.1 e.1:=Classical.byContradiction fun h=>he (jA hlt h)
    refine List.pairwise_cons.2 ⟨fun d hd=> ?_,hs⟩
    rcases List.mem_cons.1 hd with rfl | h3
    ·exact hgt
    ·exact fZ hgt (h1 d h3)
theorem ue (c:Ch):∀O:List Ch,cA c O≤O.length
 | []=>Nat.le_refl _
 | d::l=>by
  unfold cA
  split
  ·exact Nat.succ_le_succ (ue c l)
  ·exact Nat.zero_le _
theorem z6 {c d:Ch}:∀{O:List Ch} {i:Nat},i<cA c O→O[i]?=some d→cU d.1 c.1
 | [],_,h,_=>absurd h (Nat.not_lt_zero _)
 | e::l,i,h,hd=>by
  unfold cA at h
  split at h
  ·rename_i hlt
   cases i with
   | zero=>simp at hd;subst hd;exact hlt
   | succ i=>exact z6 (Nat.lt_of_succ_lt_succ h) (by simpa using hd)
  ·exact absurd h (Nat.not_lt_zero _)
theorem z7 {c d:Ch}:∀{O:List Ch},O[cA c O]?=some d→¬cU d.1 c.1
 | [],h=>by simp at h
 | e::l,h=>by
  unfold cA at h
  split at h
  ·exact z7 (O:=l) (by simpa using h)
  ·rename_i hn
   simp at h;subst h;exact hn
theorem xY {c:Ch}:∀{O:List Ch},O.drop (cA c O)= []→io c O=O.take (cA c O)++ [c]++ []
 | [],_=>rfl
 | e::l,h=>by
  unfold cA at h
  unfold io cA
  split at h
  ·rename_i hlt
   rw [if_pos hlt,if_pos hlt,xY (O:=l) (by simpa using h)];rfl
  ·simp at h
theorem o9 {c e:Ch} {t:List Ch}:∀{O:List Ch},O.drop (cA c O)=e::t→io c O=O.take (cA c O)++ [c]++(if e.1=c.1 then t else e::t)
 | [],h=>by simp at h
 | d::l,h=>by
  unfold cA at h
  unfold io cA
  split at h
  ·rename_i hlt
   rw [if_pos hlt,if_pos hlt,o9 (O:=l) (by simpa using h)];rfl
  ·rename_i hlt
   simp only [List.drop_zero,List.cons.injEq] at h
   obtain ⟨rfl,rfl⟩:=h
   rw [if_neg hlt,if_neg hlt]
   split<;>rfl
theorem xZ (c:Ch):∀O:List Ch,(io c O).length≤O.length+1
 | []=>Nat.le_refl _
 | e::l=>by
  unfold io
  have:=xZ c l
  split
  ·simp only [List.length_cons];omega
  ·split<;>simp only [List.length_cons]<;>omega
def fa (cs:List Ch):Nat→List Ch
 | 0=> []
 | j+1=>match cs[j]? with
  | some c=>bif cC c then io c (fa cs j) else fa cs j
  | none=>fa cs j
theorem ny {cs:List Ch} {j:Nat} {c:Ch} (h:cs[j]?=some c):fa cs (j+1)=bif cC c then io c (fa cs j) else fa cs j:=by
 simp only [fa,h]
theorem pQ (cs:List Ch):∀j,(fa cs j).length≤j
 | 0=>Nat.le_refl _
 | j+1=>by
  have:=pQ cs j
  cases hc:cs[j]? with
  | none=>simp only [fa,hc];omega
  | some c=>
   rw [ny hc]
   cases cC c
   ·simp only [cond_false];omega
   ·have:=xZ c (fa cs j);simp only [cond_true];omega
theorem uf (cs:List Ch):∀j,pP (fa cs j)
 | 0=>List.Pairwise.nil
 | j+1=>by
  have:=uf cs j
  cases hc:cs[j]? with
  | none=>simp only [fa,hc];exact this
  | some c=>
   rw [ny hc]
   cases cC c
   ·exact this
   ·exact xX this
theorem z8 {cs:List Ch} {d:Ch}:∀{j},d∈fa cs j ↔ ∃i,e7 cs j d.1=some i∧cs[i]?=some d
 | 0=>⟨fun h=>(by cases h),fun ⟨i,h,_⟩=>(by cases h)⟩
 | j+1=>by
  have ih:=z8 (cs:=cs) (d:=d) (j:=j)
  cases hc:cs[j]? with
  | none=>simp only [fa,e7,hc];exact ih
  | some c=>
   rw [ny hc,qX hc]
   cases hg:cC c with
   | false=>simp only [cond_false,Bool.false_and];exact ih
   | true=>
    simp only [cond_true,Bool.true_and]
    rw [ru (uf cs j),ih]
    by_cases he:c.1=d.1
    ·rw [decide_eq_true he,cond_true]
     constructor
     ·rintro (rfl | ⟨_,h⟩)
      ·exact ⟨j,rfl,hc⟩
      ·exact absurd he.symm h
     ·rintro ⟨i,h1,h2⟩
      obtain rfl:=Option.some.inj h1
      rw [hc] at h2
      exact .inl (Option.some.inj h2).symm
    ·rw [decide_eq_false he,cond_false]
     constructor
     ·rintro (rfl | ⟨h,_⟩)
      ·exact absurd rfl he
      ·exact h
     ·exact fun h=> .inr ⟨h,fun h2=>he h2.symm⟩
theorem x0:∀{l m:List Ch},pP l→pP m→(∀x,x∈l ↔ x∈m)→l=m
  | [], [],_,_,_=>rfl
  | [],b::m,_,_,h=>by have:=(h b).2 (by simp);simp at this
  | a::l, [],_,_,h=>by have:=(h a).1 (by simp);simp at this
  | a::l,b::m,hl,hm,h=>by
    obtain ⟨hl1,hl2⟩:=List.pairwise_cons.1 hl
    obtain ⟨hm1,hm2⟩:=List.pairwise_cons.1 hm
    have e:a=b:=by
      rcases List.mem_cons.1 ((h a).1 (by simp)) with h1 | h1
      · exact h1
      · rcases List.mem_cons.1 ((h b).2 (by simp)) with h2 | h2
        · exact h2.symm
        · exact absurd (fZ (hm1 a h1) (hl1 b h2)) (cI b.1)
    subst e
    congr 1
    refine x0 hl2 hm2 fun x=>⟨fun hx=> ?_,fun hx=> ?_⟩
    · rcases List.mem_cons.1 ((h x).1 (List.mem_cons_of_mem _ hx)) with rfl | h1
      · exact absurd (hl1 x hx) (cI x.1)
      · exact h1
    · rcases List.mem_cons.1 ((h x).2 (List.mem_cons_of_mem _ hx)) with rfl | h1
      · exact absurd (hm1 x hx) (cI x.1)
      · exact h1
theorem Aa (cs:List Ch):fa cs cs.length=bt cs:=by
 refine x0 (uf cs _) ?_ fun d=> ?_
 ·have:=xG (sH cs)
  rw [←FQ,List.pairwise_map] at this
  exact this
 ·obtain ⟨p,v⟩:=d
  rw [z8,vg]
  unfold lr
  constructor
  ·rintro ⟨i,h1,h2⟩
   rw [show e7 cs cs.length p=some i from h1]
   simp [h2]
  ·intro h
   cases hi:e7 cs cs.length p with
   | none=>rw [hi] at h;cases h
   | some i=>
    obtain ⟨_,c,h2,_,h3⟩:=oU hi
    rw [hi] at h
    simp only [Option.bind_some,h2,Option.map_some,Option.some.injEq] at h
    exact ⟨i,rfl,by rw [h2];obtain ⟨q,w⟩:=c;cases h3;cases h;rfl⟩
section
variable {P:Program} {G:aK} {t e:TypeId} {n:Nat}
theorem RowI.appX (h:RowI P t e n) {T:VT} {k c:Nat} {bn:Bool} {es es2:List (List TV)} {tok:Tok} {s x:Nat} (hc:c=es.length) (hk:T.tails[k]?=some (c,n,bn)) (hne:Nat.beq s x=false) (hl:es.length+es2.length≤100000000):
  aB P G 0 T (.call ⟨.builtin .append, #[.tmp s, .tmp x], #[t,t]⟩) [(s, .vec n es (.tail k c)),(x, .vec n es2 tok)] (.vec n (es++es2) (.tail k (es++es2).length)) {T with tails:=T.tails.set k ((es++es2).length,n,bn)}:=by
 subst hc;exact h.appL hk hne hl
theorem RowI.lo1 (h:RowI P t e n) {es:List (List TV)} {tok:Tok} {x:Nat} (hp:1≤es.length):ax P G (.slice t (.tmp x) (some (.const (.int .i64 1))) none none) [(x, .vec n es tok)] (.vec n (es.drop 1) tok):=by
 obtain ⟨inf,z,i1,i2,i3,i4,i5⟩:=h.ex
 have:=wO (P:=P) (G:=G) (t:=t) (x:= .tmp x) (i:= .const (.int .i64 1)) (l:= [(x, .vec n es tok)]) (inf:=inf) (es:=es) (tok:=tok) (k:= .i64) (z:=1) h.sl i1 (by rw [i2];simp [bb,bX]) (by simp [bb];rfl) (by omega) (by simpa using hp)
 rw [i2] at this
 simpa using this
end
theorem dI:RowI Tryz.prog 29 54 8:=⟨Tryz.underlying29,⟨(Tryz.prog.info? 54).getD default,((Tryz.prog.info? 54).getD default).zero.getD default,by kernel_rfl,by kernel_rfl,Nat.le_of_ble_eq_true (by kernel_rfl),by kernel_rfl,by kernel_rfl⟩,by omega⟩
theorem dt {cs:List Ch} {j:Nat} {c:Ch} {tok:Tok} (x i:Nat) (hne:Nat.beq x i=false) (hp:cs[j]?=some c):ax Tryz.prog ae (.indexAddr 29 (.tmp x) (.tmp i)) [(x, .vec 8 (cs.map ag) tok),(i, .val (.int .i64 (j:Int)))] (.elt (ag c)):=
 dI.ix hne (by simp [hp])
theorem Ab (b:Bool):∀ro ys T K,rf b ro ys T K→VCx Tryz.prog ae ro tZ ys T K:=by
 intro ro ys T K h
 unfold rf at h
 split at h
 ·obtain ⟨⟨c,rfl,h1,h2,rfl⟩,hk⟩:=h
  exact VCx.liftPure ap (Ie c.1 c.2.2 h2 h1) (by simp only [av,TV.ren,gU];rfl) (fun _ _=>rfl) hk
 ·exact h.elim
theorem Ac:∀ro ys T K,t8 ro ys T K→VCx Tryz.prog ae ro xJ ys T K:=by
 intro ro ys T K h
 unfold t8 at h
 split at h
 ·exact VCx.liftPure ap (VCx.ofCalls rfl (Nr _ _ _ _) fun _ _=>rfl) rfl (fun _ _=>rfl) h
 ·exact h.elim
theorem O0 (x y:Px):decide (ez x.1 x.2 y.1 y.2<0)=decide (cU x y):=by
 have:=sD x y
 unfold ltOf ll at this
 rw [decide_eq_true_eq] at this
 exact decide_eq_decide.2 this
theorem Ad {cs O:List Ch} {c:Ch} {j:Nat} (hO:O.length≤2000) (K:KX) (hK:K .normal (aj 63 rl (rm (O.map ag) (cs.map ag) j (cA c O))) (rp c.1.1 c.1.2 c.2.1 c.2.2) []):
    VWx Tryz.prog ae none 0 (am Tryz.prog en 2) (aj 63 rl (rm (O.map ag) (cs.map ag) j 0)) (rp c.1.1 c.1.2 c.2.1 c.2.2) [] K:=by
  have hlen:=bL O
  have hS:aQ Tryz.prog ae (aw [(xJ,t8)]):=aE fun p hp=>by obtain rfl:=List.mem_singleton.1 hp;exact Ac
  refine bK (f:=en) (id:=2) (by kernel_rfl) 63 rl (fun i:Nat=>O.length-i) (fun i:Nat=>rm (O.map ag) (cs.map ag) j (i:Int)) (fun _=>rp c.1.1 c.1.2 c.2.1 c.2.2) (fun i=>i≤cA c O) 1 1 (fun _ _=>⟨Nat.le_refl _,Nat.le_refl _⟩)
    (fun e vs T=>e= .normal∧vs=rm (O.map ag) (cs.map ag) j (cA c O)∧T=rp c.1.1 c.1.2 c.2.1 c.2.2) (fun i hi=> ?_) 0 (Nat.zero_le _) K ?_
  rotate_left
  · rintro e vs T ⟨rfl,rfl,rfl⟩
    exact hK
  have hle:=ue c O
  by_cases hlt:i<O.length
  · have hr:=List.getElem?_eq_getElem hlt
    generalize O[i]=d at hr
    refine aI ac aa hS ah (zG (O.map ag) (cs.map ag) c.1.1 c.1.2 d.1.1 d.1.2 c.2.1 d.2.1 c.2.2 d.2.2 j i _) ?_
    refine aN (decide_eq_true (by rw [hlen];omega)) ⟨dt 22 23 rfl hr, ?_⟩
    rw [O0 d.1 c.1]
    refine aF (fun h=> ?_) (fun h=> ?_)
    · have h2:=of_decide_eq_true h
      have hne:i≠cA c O:=fun he=>by subst he;exact z7 hr h2
      rw [cf (by omega)]
      exact ⟨rfl,rfl,i+1,by omega,by show O.length-(i+1)<O.length-i;omega, .inl ⟨rfl,rfl⟩⟩
    · have h2:=of_decide_eq_false h
      have he:i=cA c O:=by
        rcases Nat.lt_or_ge i (cA c O) with h3 | h3
        · exact absurd (z6 h3 hr) h2
        · omega
      subst he
      exact ⟨rfl,rfl,rfl,rfl,rfl⟩
  · have he:i=cA c O:=by omega
    have he2:i=O.length:=by omega
    refine aI ac aa hS ah (zG (O.map ag) (cs.map ag) c.1.1 c.1.2 0 0 c.2.1 bm c.2.2 true j i _) (aH (decide_eq_false (by rw [hlen];omega)) ?_)
    subst he
    exact ⟨rfl,rfl,rfl,rfl,rfl⟩
theorem Jm {cs:List Ch} (hc:CdOk cs) (K:KX) (hK:K .normal (aj 63 rj (iL ((bt cs).map ag) (cs.map ag) ((cs.map ag).length:Nat))) nt []):
    VWx Tryz.prog ae none 0 (am Tryz.prog en 0) (aj 63 rj (iL [] (cs.map ag) 0)) nt [] K:=by
  have hlen:=bL cs
  have hf:=hc.few
  rw [←Aa] at hK
  refine bK (f:=en) (id:=0) (by kernel_rfl) 63 rj (fun j:Nat=>cs.length-j) (fun j:Nat=>iL ((fa cs j).map ag) (cs.map ag) (j:Int)) (fun _=>nt) (fun j=>j≤cs.length) 0 1 (fun _ _=>⟨Nat.le_refl _,Nat.le_refl _⟩)
    (fun e vs T=>e= .normal∧vs=iL ((fa cs cs.length).map ag) (cs.map ag) ((cs.map ag).length:Nat)∧T=nt) (fun j hj=> ?_) 0 (Nat.zero_le _) K ?_
  rotate_left
  · rintro e vs T ⟨rfl,rfl,rfl⟩
    exact hK
  have hS:∀ok,aQ Tryz.prog ae (aw [(tZ,rf ok),(xJ,t8)]):=fun ok=>aE fun p hp=>by
    rcases List.mem_cons.1 hp with rfl | hp;exact Ab _
    obtain rfl:=List.mem_singleton.1 hp;exact Ac
  by_cases hlt:j<cs.length
  · have hr:=List.getElem?_eq_getElem hlt
    have hm:cs[j]∈cs:=List.getElem_mem hlt
    generalize cs[j]=c at hr hm
    have hd:=hc.at' c hm
    have hoL:=pQ cs j
    have hole:=ue c (fa cs j)
    have hsu:=ny hr
    generalize hO:fa cs j=O at hoL hole hsu
    have hLs:eP Tryz.prog ae (Mf (O.map ag) (cs.map ag) c.1.1 c.1.2 c.2.1 c.2.2 j (cA c O) (am Tryz.prog en 2)):=aL fun p hp=>by
      obtain rfl:=List.mem_singleton.1 hp
      exact aS (Ad (by omega))
    have hOl:=bL O
    have htl:((O.map ag).take (cA c O)).length=cA c O:=by rw [List.length_take,hOl];omega
    have dgo:vL (ag c) (cC c):=⟨c,rfl,hd.1.1,hd.2,rfl⟩
    have key:∀R:Bs,(O.map ag).take (cA c O)++ [ag c]++R=(fa cs (j+1)).map ag→m4 63 0 (fun j:Nat=>cs.length-j) (fun j:Nat=>iL ((fa cs j).map ag) (cs.map ag) (j:Int)) (fun _=>nt) (fun j=>j≤cs.length) 0 1 j (fun e vs T=>e= .normal∧vs=iL ((fa cs cs.length).map ag) (cs.map ag) ((cs.map ag).length:Nat)∧T=nt)
        .normal [.vec 8 ((O.map ag).take (cA c O)++ [ag c]++R) (.tail 1 ((O.map ag).take (cA c O)++ [ag c]++R).length), .vec 8 (cs.map ag) .none, .val (.int .i64 ((cs.map ag).length:Int)), .val (.int .i64 (IntKind.wrap .i64 ((j:Int)+1)))] ⟨[.cells (ag c)], [(0,8,true),(((O.map ag).take (cA c O)++ [ag c]++R).length,8,false)]⟩ [] 63:=fun R h=>by
      rw [h,cf (by omega)]
      exact ⟨rfl,rfl,j+1,hlt,by show cs.length-(j+1)<cs.length-j;omega, .inr ⟨rfl,by simp only [iL,av,TV.ren,aP,Tok.ren];rfl⟩⟩
    cases hg:cC c with
    | false=>
      rw [hg] at dgo
      refine aI ac aa (hS false) hLs (pO (O.map ag) (cs.map ag) c.1.1 c.1.2 0 0 c.2.1 bm c.2.2 true false j (cA c O) _) ?_
      refine aN (decide_eq_true (by rw [hlen];omega)) ⟨dt 8 10 rfl hr,dgo,aN rfl ?_⟩
      rw [cf (by omega)]
      refine ⟨rfl,rfl,j+1,hlt,by show cs.length-(j+1)<cs.length-j;omega, .inr ⟨rfl, ?_⟩⟩
      show _=iL ((fa cs (j+1)).map ag) (cs.map ag) ((j+1:Nat):Int)
      rw [hsu,hg]
      simp only [iL,av,TV.ren,aP,Tok.ren,cond_false]
    | true=>
      rw [hg] at dgo
      rw [hg,cond_true] at hsu
      cases hdr:O.drop (cA c O) with
      | nil=>
        have hdm:(O.map ag).drop (cA c O)= []:=by rw [←List.map_drop,hdr];rfl
        refine aI ac aa (hS true) hLs (pO (O.map ag) (cs.map ag) c.1.1 c.1.2 0 0 c.2.1 bm c.2.2 true true j (cA c O) _) ?_
        refine aN (decide_eq_true (by rw [hlen];omega)) ⟨dt 8 10 rfl hr,dgo,aH rfl ⟨rfl,⟨rfl,rfl,rfl,trivial,rfl,rfl,rfl⟩,dI.lo rfl (by omega),aH (by rw [hdm];rfl) ⟨dI.hi rfl (by omega),dI.appF (objs:= [_]) (tl:= [(0,8,true)]) (es:= []) rfl (by simp only [htl,List.length_nil];omega),⟨rfl,trivial⟩,dI.appE (T:=⟨[_], [(0,8,true),(_,8,false)]⟩) (k:=1) (es2:= [_]) rfl rfl (by simp only [htl,List.length_cons,List.length_nil];omega),dI.appX (T:=⟨[_], [(0,8,true),(_,8,false)]⟩) (k:=1) (by rw [List.length_append];rfl) rfl rfl (by rw [hdm];simp only [List.length_append,htl,List.length_cons,List.length_nil];omega),key _ ?_⟩⟩⟩
        rw [hsu,hdm,xY hdr]
        simp [List.map_take]
      | cons e l=>
        have hdm:(O.map ag).drop (cA c O)=(e::l).map ag:=by rw [←List.map_drop,hdr]
        have hdl:l.length+1≤60:=by have:=congrArg List.length hdr;rw [List.length_drop,List.length_cons] at this;omega
        refine aI ac aa (hS true) hLs (pO (O.map ag) (cs.map ag) c.1.1 c.1.2 e.1.1 e.1.2 c.2.1 e.2.1 c.2.2 e.2.2 true j (cA c O) _) ?_
        refine aN (decide_eq_true (by rw [hlen];omega)) ⟨dt 8 10 rfl hr,dgo,aH rfl ⟨rfl,⟨rfl,rfl,rfl,trivial,rfl,rfl,rfl⟩,dI.lo rfl (by omega),aN (by rw [hdm];simp) ⟨by rw [hdm];exact dI.ix0 rfl, ?_⟩⟩⟩
        have hk:aG BinOp.eql (ar ((fun vs=>Value.agg (List.toArray vs)) ((fun x=>Value.int IntKind.u32 e.1.1::x) ((fun x=>Value.int IntKind.i64 e.1.2::x) []))) ((fun vs=>Value.agg (List.toArray vs)) ((fun x=>Value.int IntKind.u32 c.1.1::x) ((fun x=>Value.int IntKind.i64 c.1.2::x) []))))=decide (e.1=c.1):=by
          refine (KH _ _ _ _).trans ?_
          rw [←Bool.decide_and]
          exact decide_eq_decide.2 ⟨fun h=>Prod.ext h.1 h.2,fun h=>by rw [h];exact ⟨rfl,rfl⟩⟩
        rw [hk]
        refine aF (fun h=>⟨dI.lo1 (by rw [hdm];simp),dI.hi rfl (by omega),dI.appF (objs:= [_]) (tl:= [(0,8,true)]) (es:= []) rfl (by simp only [htl,List.length_nil];omega),⟨rfl,trivial⟩,dI.appE (T:=⟨[_], [(0,8,true),(_,8,false)]⟩) (k:=1) (es2:= [_]) rfl rfl (by simp only [htl,List.length_cons,List.length_nil];omega),dI.appX (T:=⟨[_], [(0,8,true),(_,8,false)]⟩) (k:=1) (by rw [List.length_append];rfl) rfl rfl (by rw [hdm];simp only [List.length_append,htl,List.length_cons,List.length_nil,List.length_drop,List.length_map];omega),key _ ?_⟩) (fun h=>⟨dI.hi rfl (by omega),dI.appF (objs:= [_]) (tl:= [(0,8,true)]) (es:= []) rfl (by simp only [htl,List.length_nil];omega),⟨rfl,trivial⟩,dI.appE (T:=⟨[_], [(0,8,true),(_,8,false)]⟩) (k:=1) (es2:= [_]) rfl rfl (by simp only [htl,List.length_cons,List.length_nil];omega),dI.appX (T:=⟨[_], [(0,8,true),(_,8,false)]⟩) (k:=1) (by rw [List.length_append];rfl) rfl rfl (by rw [hdm];simp only [List.length_append,htl,List.length_cons,List.length_nil,List.length_map];omega),key _ ?_⟩)
        · rw [hsu,hdm,o9 hdr,if_pos (of_decide_eq_true h)]
          simp [List.map_take]
        · rw [hsu,hdm,o9 hdr,if_neg (of_decide_eq_false h)]
          simp [List.map_take]
  · obtain rfl:j=cs.length:=by omega
    refine aI ac aa (hS true) (aL fun p hp=>by obtain rfl:=List.mem_singleton.1 hp;exact aS (Ad (c:=((0,0),bm,true)) (by have:=pQ cs cs.length;omega))) (pO ((fa cs cs.length).map ag) (cs.map ag) 0 0 0 0 bm bm true true true cs.length (cA ((0,0),bm,true) (fa cs cs.length)) _) (aH (decide_eq_false (by rw [hlen];omega)) ?_)
    exact ⟨rfl,rfl,rfl,by simp only [iL,hlen],rfl⟩
theorem MM {cs:List Ch} (hc:CdOk cs):VCx Tryz.prog ae 0 en [.vec 8 (cs.map ag) .none] ⟨[], []⟩ fun x T' =>x= .vec 8 ((bt cs).map ag) .none∧T' =⟨[], []⟩:=by
 refine VCx.keepQ 0 0 (Nat.le_refl _) (Nat.le_refl _) (ak ac aa ai (aL fun p hp=> ?_) (Mq ((bt cs).map ag) (cs.map ag) _) ⟨rfl,⟨rfl,rfl,rfl,⟨rfl,trivial⟩,rfl,rfl,rfl⟩,by simp only [TV.ren,aP,Tok.ren],rfl⟩)
 obtain rfl:=List.mem_singleton.1 hp
 exact qL (Jm hc)
theorem Ae (r:Bs):∀ro ys T K,rq r ro ys T K→VCx Tryz.prog ae ro en ys T K:=by
 intro ro ys T K h
 unfold rq at h
 split at h
 ·obtain ⟨⟨cs,rfl,hc,rfl⟩,hk⟩:=h
  refine VCx.argsLe (xs:= [.vec 8 (cs.map ag) .none]) ⟨.vec _ _ _,trivial⟩ ?_
  exact VCx.liftPure ap (MM hc) (by simp only [av,TV.ren,aP,Tok.ren]) (fun _ _=>by simp only [TV.ren,aP,Tok.ren]) hk
 ·exact h.elim
end

end Go.Proofs.YtnfplefcghadfaaGreat