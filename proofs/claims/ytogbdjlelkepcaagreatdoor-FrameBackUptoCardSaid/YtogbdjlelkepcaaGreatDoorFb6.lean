/-Part 6 of the proof of frameBackUptoCard_holds:MsRvf,MsRvg,MsRp ... No condition. -/
import Derived.Test.YtogbdjlelkepcaaGreatDoorFb1
import Derived.Test.YtogbdjlelkepcaaGreatDoorFb2
import Derived.Test.YtogbdjlelkepcaaGreatDoorFb3
import Derived.Test.YtogbdjlelkepcaaGreatDoorFb4
import Derived.Test.YtogbdjlelkepcaaGreatDoorFb5
set_option maxRecDepth 100000
namespace Go.Proofs.YtogbdjlelkepcaaGreatDoor
open Go.RowKit
open Go.BinOp (eql neq)
open _root_.BitVec (ofInt toNat)
open Go.Builtin (zeroCells)
open Go.Calls (mono)
open _root_.Int (ofNat ofNat_inj toNat_natCast)
open Go.IntKind (i64 u32 u64 u8 wrap)
open _root_.List (append_nil flatten flatten_cons getElem?_eq_getElem getElem?_map getElem?_set length length_append length_cons length_drop length_map length_nil map_cons map_nil mem_append mem_cons mem_map mem_singleton nil_append nodup_nil not_mem_nil toArray)
open _root_.Nat (beq beq_refl ble ble_eq_true_of_le le_of_ble_eq_true le_refl mul_one not_lt_zero zero_add zero_le zero_mul)
open _root_.Option (getD_some)
open Go.Proofs.Tryz (prog underlying22)
open Go.Value (oneCell')
abbrev IY:=44
def ON:aW:=λro ys T K=>match ys with
 |[.row 1 k off n,.val (.int .i64 16)]=>match T.objs[k]? with
  |some (.row cs)=>(ble ro k=true∧RwOk cs off n∧ble 19 n=true∧off=0)∧K (.tup [.val (.int .i64 (io (aC cs off n))),.val (.bool true)]) T
  |_=>aJ 80 default ys
 |_=>aJ 86 default ys
def Ei:aW:=λro ys T K=>match ys with
 |[.row 1 k off n]=>match T.objs[k]? with
  |some (.row cs)=>(ble ro k=true∧RwOk cs off n∧ble 19 n=true∧off=0)∧bif dg (aC cs off n) then K (.tup [.val (.int .i64 (bI (aC cs off n))),.val (.int .i64 (ew (aC cs off n))),cK 0 0 []]) T else K (.tup [.val (.int .i64 0),.val (.int .i64 0),cK 1 (nu (aC cs off n)) (lT (aC cs off n))]) T
  |_=>aJ 80 default ys
 |_=>aJ 83 default ys
def Le:aW:=λro ys T K=>match ys with
 |[.row 1 k off n,.val (.int .i64 pas)]=>match T.objs[k]? with
  |some (.row cs)=>(ble ro k=true∧RwOk cs off n)∧bif ib (aC cs off n) pas then K (.tup [.agg [.val (.int .i64 (OH (aC cs off n) pas)),.val (.int .i64 (OI (aC cs off n) pas)),.val (.int .u32 (OJ (aC cs off n) pas)),.vec 2 (uC (aC cs off n) pas) .none],cK 0 0 []]) T else K (.tup [.agg [.val (.int .i64 0),.val (.int .i64 0),.val (.int .u32 0),.vec 2 [] .none],cK 2 (sL (aC cs off n) pas) (lU (aC cs off n) pas)]) T
  |_=>aJ 80 default ys
 |_=>aJ 83 default ys
def Lf:aW:=λro ys T K=>match ys with
 |[.row 1 k off n]=>match T.objs[k]? with
  |some (.row cs)=>(ble ro k=true∧RwOk cs off n)∧bif iC (aC cs off n) then K (.tup [.agg [.vec 2 (IL (aC cs off n)) .none,.val (.int .i64 (IM (aC cs off n))),.vec 1 (IN (aC cs off n)) .none,.val (.int .u32 (IP (aC cs off n))),.val (.int .i64 (IQ (aC cs off n))),.val (.bool (IR (aC cs off n))),.vec 2 (IS (aC cs off n)) .none],cK 0 0 []]) T
   else K (.tup [.agg [.vec 2 [] .none,.val (.int .i64 0),.vec 1 [] .none,.val (.int .u32 0),.val (.int .i64 0),.val (.bool false),.vec 2 [] .none],cK 3 (sM (aC cs off n)) (lW (aC cs off n))]) T
  |_=>aJ 80 default ys
 |_=>aJ 83 default ys
def Lg:aW:=λro ys T K=>match ys with
 |[.row 1 k off n]=>match T.objs[k]? with
  |some (.row cs)=>(ble ro k=true∧RwOk cs off n∧off=19∧ble 2 n=true)∧bif jB (aC cs off n) then K (.tup [cK (yW (aC cs off n)) (yX (aC cs off n)) (yY (aC cs off n)),.val (.bool true)]) T else K (.tup [cK 0 0 [],.val (.bool false)]) T
  |_=>aJ 80 default ys
 |_=>aJ 83 default ys
def ip (c0 c1 c2 c3 c4 c5 c6 c7 c8 c9 c10 c11 c12 c13 c14 c15 c16 c17 c18:TV)(w:List TV):List TV:=c0::c1::c2::c3::c4::c5::c6::c7::c8::c9::c10::c11::c12::c13::c14::c15::c16::c17::c18::w
def y9 (z0 z1 z2 z3 z4 z5 z6 z7 z8 z9 z10 z11 z12 z13 z14 z15 z16 z17 z18:Int)(w:List TV):List TV:=.val (.int .u8 z0):: .val (.int .u8 z1):: .val (.int .u8 z2):: .val (.int .u8 z3):: .val (.int .u8 z4):: .val (.int .u8 z5):: .val (.int .u8 z6):: .val (.int .u8 z7):: .val (.int .u8 z8):: .val (.int .u8 z9):: .val (.int .u8 z10):: .val (.int .u8 z11):: .val (.int .u8 z12):: .val (.int .u8 z13):: .val (.int .u8 z14):: .val (.int .u8 z15):: .val (.int .u8 z16):: .val (.int .u8 z17):: .val (.int .u8 z18)::w
abbrev za (c0:TV)(c1:TV)(c2:TV)(c3:TV)(c4:TV)(c5:TV)(c6:TV)(c7:TV)(c8:TV)(c9:TV)(c10:TV)(c11:TV)(c12:TV)(c13:TV)(c14:TV)(c15:TV)(c16:TV)(c17:TV)(c18:TV)(z0:Int)(z1:Int)(w:List TV)(m:Nat):VT:=(Y8 ([(c0),(c1),(c2),(c3),(c4),(c5),(c6),(c7),(c8),(c9),(c10),(c11),(c12),(c13),(c14),(c15),(c16),(c17),(c18),(.val (.int .u8 (z0))),(.val (.int .u8 (z1)))]++w) (wrap i64 z0) (wrap i64 z1) (aC (ip c0 c1 c2 c3 c4 c5 c6 c7 c8 c9 c10 c11 c12 c13 c14 c15 c16 c17 c18 (TV.val (Value.int u8 z0)::TV.val (Value.int u8 z1)::w)) (21:Nat) m) (wrap i64 z0) (wrap i64 z1) (aC (ip c0 c1 c2 c3 c4 c5 c6 c7 c8 c9 c10 c11 c12 c13 c14 c15 c16 c17 c18 (TV.val (Value.int u8 z0)::TV.val (Value.int u8 z1)::w)) (21:Nat) m))
abbrev IZ (z0:Int)(z1:Int)(c0:TV)(c1:TV)(c2:TV)(c3:TV)(c4:TV)(c5:TV)(c6:TV)(c7:TV)(c8:TV)(c9:TV)(c10:TV)(c11:TV)(c12:TV)(c13:TV)(c14:TV)(c15:TV)(c16:TV)(c17:TV)(c18:TV)(w:List TV)(m:Nat):VO:=(en (wrap i64 z0) (wrap i64 z1) (aC (ip c0 c1 c2 c3 c4 c5 c6 c7 c8 c9 c10 c11 c12 c13 c14 c15 c16 c17 c18 (TV.val (Value.int u8 z0)::TV.val (Value.int u8 z1)::w)) (21:Nat) m))
theorem VK (c0 c1 c2 c3 c4 c5 c6 c7 c8 c9 c10 c11 c12 c13 c14 c15 c16 c17 c18:TV)(z0 z1:Int)(w:List TV)(m:Nat)(Q:TV→VT→Prop):ar prog ae (aF [(nS,P0)]) (aZ [(999998,.dead,none),(10,.ptr 0 19,none),(14,.ptr 0 20,none),(18,.row 1 0 21 m,none)]) 300 aN 0 DM [.row 1 0 19 (m+2)] (cu (.row (ip c0 c1 c2 c3 c4 c5 c6 c7 c8 c9 c10 c11 c12 c13 c14 c15 c16 c17 c18 (.val (.int .u8 z0):: .val (.int .u8 z1)::w)))) Q=
 (bc prog (λ_=>.none) (.indexAddr 22 (.tmp 9) (.const (.int .i64 0))) [(9,(.row 1 0 19 (m+(2:Nat))))] (.ptr 0 19)∧
 (bc prog (λ_=>.none) (.indexAddr 22 (.tmp 13) (.const (.int .i64 1))) [(13,(.row 1 0 19 (m+(2:Nat))))] (.ptr 0 20)∧
 (bc prog (λ_=>.none) (.slice 22 (.tmp 17) (.some (.const (.int .i64 2))) .none .none) [(17,(.row 1 0 19 (m+(2:Nat))))] (.row 1 0 21 m)∧
 (((@Eq (Bool) true true)∧
 RwOk ([(c0),(c1),(c2),(c3),(c4),(c5),(c6),(c7),(c8),(c9),(c10),(c11),(c12),(c13),(c14),(c15),(c16),(c17),(c18),(bp z0),(bp z1)]++w) 21 (m))∧
 (((@Eq (Option TV) (.some (bp z1)) (.some (bp z1)))∧
 ((@Eq (Option TV) (.some (bp z0)) (.some (bp z0)))∧
 True))∧
 (bif decide (wrap i64 z0≥(1:Int))
 then (bif decide (wrap i64 z0≤(255:Int))
 then (bif decide (wrap i64 z1≥(0:Int))
 then (bif decide (wrap i64 z1≤(255:Int))
 then (bif !decide ((↑(length (aC (ip c0 c1 c2 c3 c4 c5 c6 c7 c8 c9 c10 c11 c12 c13 c14 c15 c16 c17 c18 (TV.val (Value.int u8 z0)::TV.val (Value.int u8 z1)::w)) (21:Nat) m)):Int)≤(4075:Int))
 then Q ol (za c0 c1 c2 c3 c4 c5 c6 c7 c8 c9 c10 c11 c12 c13 c14 c15 c16 c17 c18 z0 z1 w m)
 else Q (.tup [(qd (wrap i64 z0) (wrap i64 z1) (aC (ip c0 c1 c2 c3 c4 c5 c6 c7 c8 c9 c10 c11 c12 c13 c14 c15 c16 c17 c18 (TV.val (Value.int u8 z0)::TV.val (Value.int u8 z1)::w)) (21:Nat) m)),aI]) ⟨[(bB ([(c0),(c1),(c2),(c3),(c4),(c5),(c6),(c7),(c8),(c9),(c10),(c11),(c12),(c13),(c14),(c15),(c16),(c17),(c18),(.val (.int .u8 (z0))),(.val (.int .u8 (z1)))]++w)),(IZ z0 z1 c0 c1 c2 c3 c4 c5 c6 c7 c8 c9 c10 c11 c12 c13 c14 c15 c16 c17 c18 w m),(IZ z0 z1 c0 c1 c2 c3 c4 c5 c6 c7 c8 c9 c10 c11 c12 c13 c14 c15 c16 c17 c18 w m),(IZ z0 z1 c0 c1 c2 c3 c4 c5 c6 c7 c8 c9 c10 c11 c12 c13 c14 c15 c16 c17 c18 w m)],[]⟩)
 else Q ol (za c0 c1 c2 c3 c4 c5 c6 c7 c8 c9 c10 c11 c12 c13 c14 c15 c16 c17 c18 z0 z1 w m))
 else Q ol (za c0 c1 c2 c3 c4 c5 c6 c7 c8 c9 c10 c11 c12 c13 c14 c15 c16 c17 c18 z0 z1 w m))
 else Q ol (za c0 c1 c2 c3 c4 c5 c6 c7 c8 c9 c10 c11 c12 c13 c14 c15 c16 c17 c18 z0 z1 w m))
 else Q ol (za c0 c1 c2 c3 c4 c5 c6 c7 c8 c9 c10 c11 c12 c13 c14 c15 c16 c17 c18 z0 z1 w m))))))):=by kernel_rfl
abbrev P1 (z0:Int)(z1:Int)(z2:Int)(z3:Int)(z4:Int)(z5:Int)(z6:Int)(z7:Int)(z8:Int)(z9:Int)(z10:Int)(z11:Int)(z12:Int)(z13:Int)(z14:Int)(z15:Int)(z16:Int)(z17:Int)(z18:Int)(w:List TV):VT:=(gn ([(.val (.int .u8 (z0))),(.val (.int .u8 (z1))),(.val (.int .u8 (z2))),(.val (.int .u8 (z3))),(.val (.int .u8 (z4))),(.val (.int .u8 (z5))),(.val (.int .u8 (z6))),(.val (.int .u8 (z7))),(.val (.int .u8 (z8))),(.val (.int .u8 (z9))),(.val (.int .u8 (z10))),(.val (.int .u8 (z11))),(.val (.int .u8 (z12))),(.val (.int .u8 (z13))),(.val (.int .u8 (z14))),(.val (.int .u8 (z15))),(.val (.int .u8 (z16))),(.val (.int .u8 (z17))),(.val (.int .u8 (z18)))]++w))
theorem VL (z0 z1 z2 z3 z4 z5 z6 z7 z8 z9 z10 z11 z12 z13 z14 z15 z16 z17 z18:Int)(w:List TV)(m:Nat)(Q:TV→VT→Prop):ar prog ae bt (aZ [(12,.row 1 0 16 (m+3),none)]) 300 aN 0 IY [.row 1 0 0 (m+19),.val (.int .i64 16)] (cu (.row (y9 z0 z1 z2 z3 z4 z5 z6 z7 z8 z9 z10 z11 z12 z13 z14 z15 z16 z17 z18 w))) Q=
 (bif !decide ((16:Int)≤wrap i64 ((↑(m+(19:Nat)):Int)-(2:Int)))
 then Q (.tup [aB,aj]) (P1 z0 z1 z2 z3 z4 z5 z6 z7 z8 z9 z10 z11 z12 z13 z14 z15 z16 z17 z18 w)
 else (bc prog (λ_=>.none) (.slice 22 (.tmp 10) (.some (.tmp 11)) .none .none) [(10,(.row 1 0 0 (m+(19:Nat)))),(11,(.val (.int .i64 16)))] (.row 1 0 16 (m+(3:Nat)))∧
 Q (.tup [(ah (wrap i64
  (wrap u64
   (↑(toNat
     (ofInt (IntKind.bits u64)
       (wrap u64 (wrap u64 (↑(toNat (ofInt (IntKind.bits u64) (wrap u64 ((0:Int)*(2:Int)^min (Int.toNat (8:Int)) (IntKind.bits u64))) ||| ofInt (IntKind.bits u64) (wrap u64 z16))):Int)*(2:Int)^min (Int.toNat (8:Int)) (IntKind.bits u64))) |||
      ofInt (IntKind.bits u64) (wrap u64 z17))):
    Int)))),aI]) (P1 z0 z1 z2 z3 z4 z5 z6 z7 z8 z9 z10 z11 z12 z13 z14 z15 z16 z17 z18 w))):=by kernel_rfl
abbrev Cq (z0:Int)(z1:Int)(z2:Int)(z3:Int)(z4:Int)(z5:Int)(z6:Int)(z7:Int)(z8:Int)(z9:Int)(z10:Int)(z11:Int)(z12:Int)(z13:Int)(z14:Int)(z15:Int)(z16:Int)(z17:Int)(z18:Int)(w:List TV):VT:=(Y7 ([(.val (.int .u8 (z0))),(.val (.int .u8 (z1))),(.val (.int .u8 (z2))),(.val (.int .u8 (z3))),(.val (.int .u8 (z4))),(.val (.int .u8 (z5))),(.val (.int .u8 (z6))),(.val (.int .u8 (z7))),(.val (.int .u8 (z8))),(.val (.int .u8 (z9))),(.val (.int .u8 (z10))),(.val (.int .u8 (z11))),(.val (.int .u8 (z12))),(.val (.int .u8 (z13))),(.val (.int .u8 (z14))),(.val (.int .u8 (z15))),(.val (.int .u8 (z16))),(.val (.int .u8 (z17))),(.val (.int .u8 (z18)))]++w) z16 z17)
abbrev P2 (z0:Int)(z1:Int)(z2:Int)(z3:Int)(z4:Int)(z5:Int)(z6:Int)(z7:Int)(z8:Int)(z9:Int)(z10:Int)(z11:Int)(z12:Int)(z13:Int)(z14:Int)(z15:Int)(z16:Int)(z17:Int)(z18:Int)(w:List TV):VT:=(aa0 ([(.val (.int .u8 (z0))),(.val (.int .u8 (z1))),(.val (.int .u8 (z2))),(.val (.int .u8 (z3))),(.val (.int .u8 (z4))),(.val (.int .u8 (z5))),(.val (.int .u8 (z6))),(.val (.int .u8 (z7))),(.val (.int .u8 (z8))),(.val (.int .u8 (z9))),(.val (.int .u8 (z10))),(.val (.int .u8 (z11))),(.val (.int .u8 (z12))),(.val (.int .u8 (z13))),(.val (.int .u8 (z14))),(.val (.int .u8 (z15))),(.val (.int .u8 (z16))),(.val (.int .u8 (z17))),(.val (.int .u8 (z18)))]++w) [[(.val (.int .u8 (z18)))]] z16 z17 [[(.val (.int .u8 (z18)))]])
abbrev P3 (z0:Int)(z1:Int)(z2:Int)(z3:Int)(z4:Int)(z5:Int)(z6:Int)(z7:Int)(z8:Int)(z9:Int)(z10:Int)(z11:Int)(z12:Int)(z13:Int)(z14:Int)(z15:Int)(z16:Int)(z17:Int)(z18:Int)(w:List TV):VT:=(aaZ ([(.val (.int .u8 (z0))),(.val (.int .u8 (z1))),(.val (.int .u8 (z2))),(.val (.int .u8 (z3))),(.val (.int .u8 (z4))),(.val (.int .u8 (z5))),(.val (.int .u8 (z6))),(.val (.int .u8 (z7))),(.val (.int .u8 (z8))),(.val (.int .u8 (z9))),(.val (.int .u8 (z10))),(.val (.int .u8 (z11))),(.val (.int .u8 (z12))),(.val (.int .u8 (z13))),(.val (.int .u8 (z14))),(.val (.int .u8 (z15))),(.val (.int .u8 (z16))),(.val (.int .u8 (z17))),(.val (.int .u8 (z18)))]++w) z16 z17)
theorem VM (z0 z1 z2 z3 z4 z5 z6 z7 z8 z9 z10 z11 z12 z13 z14 z15 z16 z17 z18 x:Int)(r w:List TV)(m:Nat)(Q:TV→VT→Prop):ar prog be (aF [(IY,ON)]) (aZ [(999998,.dead,none),(24,.ptr 0 18,none),(61,.ptr 0 18,none),(71,.elt (.val (.int .i64 x)::r),none)]) 300 aN 0 Bq [.row 1 0 0 (m+19)] (cu (.row (y9 z0 z1 z2 z3 z4 z5 z6 z7 z8 z9 z10 z11 z12 z13 z14 z15 z16 z17 z18 w))) Q=
 (((@Eq (Bool) true true)∧
 (RwOk ([(bp z0),(bp z1),(bp z2),(bp z3),(bp z4),(bp z5),(bp z6),(bp z7),(bp z8),(bp z9),(bp z10),(bp z11),(bp z12),(bp z13),(bp z14),(bp z15),(bp z16),(bp z17),(bp z18)]++w) 0 (m+(19:Nat))∧
 ((@Eq (Bool) true true)∧
 (@Eq (Nat) 0 0))))∧
 (bc prog (λkk=>(bif beq kk (0:Nat) then (.some gl) else .none)) (.indexAddr 22 (.tmp 23) (.const (.int .i64 18))) [(23,(.row 1 0 0 (m+(19:Nat))))] (.ptr 0 18)∧
 (((@Eq (Option TV) (.some (.agg [(bp z0),(bp z1),(bp z2),(bp z3),(bp z4),(bp z5),(bp z6),(bp z7),(bp z8),(bp z9),(bp z10),(bp z11),(bp z12),(bp z13),(bp z14),(bp z15)])) (.some (.agg [(bp z0),(bp z1),(bp z2),(bp z3),(bp z4),(bp z5),(bp z6),(bp z7),(bp z8),(bp z9),(bp z10),(bp z11),(bp z12),(bp z13),(bp z14),(bp z15)])))∧
 True)∧
 (bif ax neq
  (aX
    ((λvs=>Value.agg (toArray vs))
      ((λx=>Value.int u8 z0::x)
        ((λx=>Value.int u8 z1::x)
          ((λx=>Value.int u8 z2::x)
            ((λx=>Value.int u8 z3::x)
              ((λx=>Value.int u8 z4::x)
                ((λx=>Value.int u8 z5::x)
                  ((λx=>Value.int u8 z6::x)
                    ((λx=>Value.int u8 z7::x)
                      ((λx=>Value.int u8 z8::x) ((λx=>Value.int u8 z9::x) ((λx=>Value.int u8 z10::x) ((λx=>Value.int u8 z11::x) ((λx=>Value.int u8 z12::x) ((λx=>Value.int u8 z13::x) ((λx=>Value.int u8 z14::x) ((λx=>Value.int u8 z15::x) [])))))))))))))))))
    ((λvs=>Value.agg (toArray vs))
      ((λx=>Value.int u8 (255:Int)::x)
        ((λx=>Value.int u8 (255:Int)::x)
          ((λx=>Value.int u8 (255:Int)::x)
            ((λx=>Value.int u8 (255:Int)::x)
              ((λx=>Value.int u8 (255:Int)::x)
                ((λx=>Value.int u8 (255:Int)::x)
                  ((λx=>Value.int u8 (255:Int)::x)
                    ((λx=>Value.int u8 (255:Int)::x)
                      ((λx=>Value.int u8 (255:Int)::x)
                        ((λx=>Value.int u8 (255:Int)::x) ((λx=>Value.int u8 (255:Int)::x) ((λx=>Value.int u8 (255:Int)::x) ((λx=>Value.int u8 (255:Int)::x) ((λx=>Value.int u8 (255:Int)::x) ((λx=>Value.int u8 (255:Int)::x) ((λx=>Value.int u8 (255:Int)::x) []))))))))))))))))))
 then Q (.tup [aB,aB,(.agg [dK,dK,aE])]) ⟨[(bB ([(.val (.int .u8 (z0))),(.val (.int .u8 (z1))),(.val (.int .u8 (z2))),(.val (.int .u8 (z3))),(.val (.int .u8 (z4))),(.val (.int .u8 (z5))),(.val (.int .u8 (z6))),(.val (.int .u8 (z7))),(.val (.int .u8 (z8))),(.val (.int .u8 (z9))),(.val (.int .u8 (z10))),(.val (.int .u8 (z11))),(.val (.int .u8 (z12))),(.val (.int .u8 (z13))),(.val (.int .u8 (z14))),(.val (.int .u8 (z15))),(.val (.int .u8 (z16))),(.val (.int .u8 (z17))),(.val (.int .u8 (z18)))]++w)),Pz,(Ig z16 z17),dA,dA,Pz],[]⟩
 else (bif decide (io (aC (y9 z0 z1 z2 z3 z4 z5 z6 z7 z8 z9 z10 z11 z12 z13 z14 z15 z16 z17 z18 w) (0:Nat) (m+(19:Nat)))<(19:Int))
 then Q B4 (Cq z0 z1 z2 z3 z4 z5 z6 z7 z8 z9 z10 z11 z12 z13 z14 z15 z16 z17 z18 w)
 else (bif decide (io (aC (y9 z0 z1 z2 z3 z4 z5 z6 z7 z8 z9 z10 z11 z12 z13 z14 z15 z16 z17 z18 w) (0:Nat) (m+(19:Nat)))>(4096:Int))
 then Q B4 (Cq z0 z1 z2 z3 z4 z5 z6 z7 z8 z9 z10 z11 z12 z13 z14 z15 z16 z17 z18 w)
 else (bif decide (wrap i64 z18<(1:Int))
 then (bc prog (λkk=>(bif beq kk (0:Nat) then (.some gl) else .none)) (.indexAddr 22 (.tmp 60) (.const (.int .i64 18))) [(60,(.row 1 0 0 (m+(19:Nat))))] (.ptr 0 18)∧
 Q (Py [[(.val (.int .u8 (z18)))]]) (P2 z0 z1 z2 z3 z4 z5 z6 z7 z8 z9 z10 z11 z12 z13 z14 z15 z16 z17 z18 w))
 else (bif decide (wrap i64 z18>(4:Int))
 then (bc prog (λkk=>(bif beq kk (0:Nat) then (.some gl) else .none)) (.indexAddr 22 (.tmp 60) (.const (.int .i64 18))) [(60,(.row 1 0 0 (m+(19:Nat))))] (.ptr 0 18)∧
 Q (Py [[(.val (.int .u8 (z18)))]]) (P2 z0 z1 z2 z3 z4 z5 z6 z7 z8 z9 z10 z11 z12 z13 z14 z15 z16 z17 z18 w))
 else (bc prog (λkk=>(bif beq kk (0:Nat) then (.some gl) else .none)) (.indexAddr 112 (.global 0) (.tmp 70)) [(70,(ah (wrap i64 z18)))] (.elt ([(.val (.int .i64 (x)))]++r))∧
 (bif decide (io (aC (y9 z0 z1 z2 z3 z4 z5 z6 z7 z8 z9 z10 z11 z12 z13 z14 z15 z16 z17 z18 w) (0:Nat) (m+(19:Nat)))<x)
 then Q B4 (Cq z0 z1 z2 z3 z4 z5 z6 z7 z8 z9 z10 z11 z12 z13 z14 z15 z16 z17 z18 w)
 else (bif ax eql (k6 (wrap i64 z18) (4:Int))
 then (bif decide (io (aC (y9 z0 z1 z2 z3 z4 z5 z6 z7 z8 z9 z10 z11 z12 z13 z14 z15 z16 z17 z18 w) (0:Nat) (m+(19:Nat)))>(19:Int))
 then Q B4 (Cq z0 z1 z2 z3 z4 z5 z6 z7 z8 z9 z10 z11 z12 z13 z14 z15 z16 z17 z18 w)
 else Q (UK (io (aC (y9 z0 z1 z2 z3 z4 z5 z6 z7 z8 z9 z10 z11 z12 z13 z14 z15 z16 z17 z18 w) (0:Nat) (m+(19:Nat)))) (wrap i64 z18)) (P3 z0 z1 z2 z3 z4 z5 z6 z7 z8 z9 z10 z11 z12 z13 z14 z15 z16 z17 z18 w))
 else Q (UK (io (aC (y9 z0 z1 z2 z3 z4 z5 z6 z7 z8 z9 z10 z11 z12 z13 z14 z15 z16 z17 z18 w) (0:Nat) (m+(19:Nat)))) (wrap i64 z18)) (P3 z0 z1 z2 z3 z4 z5 z6 z7 z8 z9 z10 z11 z12 z13 z14 z15 z16 z17 z18 w)))))))))))):=by kernel_rfl
abbrev qu (BB:List TV)(m:Nat):TV:=(ah (ew (aC BB (0:Nat) (m+(19:Nat)))))
abbrev vO (c0:TV)(c1:TV)(c2:TV)(c3:TV)(c4:TV)(c5:TV)(c6:TV)(c7:TV)(c8:TV)(c9:TV)(c10:TV)(c11:TV)(c12:TV)(c13:TV)(c14:TV)(c15:TV)(c16:TV)(c17:TV)(c18:TV)(w:List TV):VO:=(bB ([(c0),(c1),(c2),(c3),(c4),(c5),(c6),(c7),(c8),(c9),(c10),(c11),(c12),(c13),(c14),(c15),(c16),(c17),(c18)]++w))
abbrev P4 (BB:List TV)(m:Nat)(pas:Int):VO:=(aaY (ew (aC BB (0:Nat) (m+(19:Nat)))) (OH (aC BB (19:Nat) m) pas) (OI (aC BB (19:Nat) m) pas) (OJ (aC BB (19:Nat) m) pas) (uC (aC BB (19:Nat) m) pas))
abbrev P5 (BB:List TV)(m:Nat):VO:=(aaX (ew (aC BB (0:Nat) (m+(19:Nat)))) (yW (aC BB (19:Nat) m)) (yX (aC BB (19:Nat) m)) (yY (aC BB (19:Nat) m)))
theorem VN (c0 c1 c2 c3 c4 c5 c6 c7 c8 c9 c10 c11 c12 c13 c14 c15 c16 c17 c18:TV)(w:List TV)(m:Nat)(pas:Int)(Q:TV→VT→Prop):ar prog be (aF [(Bq,Ei),(Gi,Le),(GD,Lf),(DM,Lg)]) (aZ [(999999,.dead,none),(48,.row 1 0 19 m,none)]) 300 aN 0 GJ [.row 1 0 0 (m+19),.val (.int .i64 pas)] (cu (.row (ip c0 c1 c2 c3 c4 c5 c6 c7 c8 c9 c10 c11 c12 c13 c14 c15 c16 c17 c18 w))) Q=
 (λBB:List TV=>(((@Eq (Bool) true true)∧
 (RwOk ([(c0),(c1),(c2),(c3),(c4),(c5),(c6),(c7),(c8),(c9),(c10),(c11),(c12),(c13),(c14),(c15),(c16),(c17),(c18)]++w) 0 (m+(19:Nat))∧
 ((@Eq (Bool) true true)∧
 (@Eq (Nat) 0 0))))∧
 (bif dg (aC BB (0:Nat) (m+(19:Nat)))
 then (bif ax neq (k6 (bI (aC BB (0:Nat) (m+(19:Nat)))) (↑(m+(19:Nat)):Int))
 then Q NK (UJ ([(c0),(c1),(c2),(c3),(c4),(c5),(c6),(c7),(c8),(c9),(c10),(c11),(c12),(c13),(c14),(c15),(c16),(c17),(c18)]++w) c16 c17)
 else (bc prog (λkk=>(bif beq kk (0:Nat) then (.some gl) else .none)) (.slice 22 (.tmp 47) (.some (.const (.int .i64 19))) .none .none) [(47,(.row 1 0 0 (m+(19:Nat))))] (.row 1 0 19 m)∧
 (bif ax eql (k6 (ew (aC BB (0:Nat) (m+(19:Nat)))) (1:Int))
 then (((@Eq (Bool) true true)∧
 RwOk ([(c0),(c1),(c2),(c3),(c4),(c5),(c6),(c7),(c8),(c9),(c10),(c11),(c12),(c13),(c14),(c15),(c16),(c17),(c18)]++w) 19 (m))∧
 (bif ib (aC BB (19:Nat) m) pas
 then Q (.tup [(.agg [(qu BB m),(ah (OH (aC BB (19:Nat) m) pas)),(ah (OI (aC BB (19:Nat) m) pas)),(cd (OJ (aC BB (19:Nat) m) pas)),(aY (uC (aC BB (19:Nat) m) pas)),aE,aB,aE,bD,aB,aj,aE,aB,aB,aE]),mC]) ⟨[(vO c0 c1 c2 c3 c4 c5 c6 c7 c8 c9 c10 c11 c12 c13 c14 c15 c16 c17 c18 w),(P4 BB m pas),cL,eg,pi,(.row [c16,c17]),(P4 BB m pas)],[]⟩
 else Q (.tup [DC,(.agg [dk,(ah (sL (aC BB (19:Nat) m) pas)),(av (lU (aC BB (19:Nat) m) pas))])]) ⟨[(vO c0 c1 c2 c3 c4 c5 c6 c7 c8 c9 c10 c11 c12 c13 c14 c15 c16 c17 c18 w),DB,(.cells [dk,(ah (sL (aC BB (19:Nat) m) pas)),(av (lU (aC BB (19:Nat) m) pas))]),(.cells [dk,(ah (sL (aC BB (19:Nat) m) pas)),(av (lU (aC BB (19:Nat) m) pas))]),pi,(.row [c16,c17]),(.cells [(qu BB m),aB,aB,bD,fK,aE,aB,aE,bD,aB,aj,aE,aB,aB,aE])],[]⟩))
 else (bif ax eql (k6 (ew (aC BB (0:Nat) (m+(19:Nat)))) (2:Int))
 then (((@Eq (Bool) true true)∧
 RwOk ([(c0),(c1),(c2),(c3),(c4),(c5),(c6),(c7),(c8),(c9),(c10),(c11),(c12),(c13),(c14),(c15),(c16),(c17),(c18)]++w) 19 (m))∧
 (bif iC (aC BB (19:Nat) m)
 then Q (.tup [(.agg [(qu BB m),aB,aB,bD,aE,(aY (IL (aC BB (19:Nat) m))),(ah (IM (aC BB (19:Nat) m))),(av (IN (aC BB (19:Nat) m))),(cd (IP (aC BB (19:Nat) m))),(ah (IQ (aC BB (19:Nat) m))),(cS (IR (aC BB (19:Nat) m))),(aY (IS (aC BB (19:Nat) m))),aB,aB,aE]),mC]) ⟨[(vO c0 c1 c2 c3 c4 c5 c6 c7 c8 c9 c10 c11 c12 c13 c14 c15 c16 c17 c18 w),(.cells [(qu BB m),aB,aB,bD,aE,(aY (IL (aC BB (19:Nat) m))),(ah (IM (aC BB (19:Nat) m))),(av (IN (aC BB (19:Nat) m))),(cd (IP (aC BB (19:Nat) m))),(ah (IQ (aC BB (19:Nat) m))),(cS (IR (aC BB (19:Nat) m))),(aY (IS (aC BB (19:Nat) m))),aB,aB,aE]),cL,eg,pi,(.row [c16,c17]),(.cells [(qu BB m),aB,aB,bD,aE,(aY (IL (aC BB (19:Nat) m))),(ah (IM (aC BB (19:Nat) m))),(av (IN (aC BB (19:Nat) m))),(cd (IP (aC BB (19:Nat) m))),(ah (IQ (aC BB (19:Nat) m))),(cS (IR (aC BB (19:Nat) m))),(aY (IS (aC BB (19:Nat) m))),aB,aB,aE])],[]⟩
 else Q (.tup [DC,(.agg [dV,(ah (sM (aC BB (19:Nat) m))),(av (lW (aC BB (19:Nat) m)))])]) ⟨[(vO c0 c1 c2 c3 c4 c5 c6 c7 c8 c9 c10 c11 c12 c13 c14 c15 c16 c17 c18 w),DB,(Cd (sM (aC BB (19:Nat) m)) (lW (aC BB (19:Nat) m))),(Cd (sM (aC BB (19:Nat) m)) (lW (aC BB (19:Nat) m))),pi,(.row [c16,c17]),(.cells [(qu BB m),aB,aB,bD,aE,fK,aB,ij,bD,aB,aj,fK,aB,aB,aE])],[]⟩))
 else (bif ax eql (k6 (ew (aC BB (0:Nat) (m+(19:Nat)))) (3:Int))
 then (((@Eq (Bool) true true)∧
 (RwOk ([(c0),(c1),(c2),(c3),(c4),(c5),(c6),(c7),(c8),(c9),(c10),(c11),(c12),(c13),(c14),(c15),(c16),(c17),(c18)]++w) 19 (m)∧
 ((@Eq (Nat) 19 19)∧
 (@Eq (Bool) (ble (2:Nat) m) true))))∧
 (bif jB (aC BB (19:Nat) m)
 then Q (.tup [(.agg [(qu BB m),aB,aB,bD,aE,aE,aB,aE,bD,aB,aj,aE,(ah (yW (aC BB (19:Nat) m))),(ah (yX (aC BB (19:Nat) m))),(av (yY (aC BB (19:Nat) m)))]),mC]) ⟨[(vO c0 c1 c2 c3 c4 c5 c6 c7 c8 c9 c10 c11 c12 c13 c14 c15 c16 c17 c18 w),(P5 BB m),cL,eg,pi,(.row [c16,c17]),(P5 BB m),(en (yW (aC BB (19:Nat) m)) (yX (aC BB (19:Nat) m)) (yY (aC BB (19:Nat) m)))],[]⟩
 else Q NK ⟨[(vO c0 c1 c2 c3 c4 c5 c6 c7 c8 c9 c10 c11 c12 c13 c14 c15 c16 c17 c18 w),DB,pi,pi,pi,(.row [c16,c17]),(.cells [(qu BB m),aB,aB,bD,aE,aE,aB,aE,bD,aB,aj,aE,aB,aB,ij]),eg],[]⟩))
 else Q (UI (ew (aC BB (0:Nat) (m+(19:Nat))))) (UH ([(c0),(c1),(c2),(c3),(c4),(c5),(c6),(c7),(c8),(c9),(c10),(c11),(c12),(c13),(c14),(c15),(c16),(c17),(c18)]++w) (ew (aC BB (0:Nat) (m+(19:Nat)))) c16 c17 (ew (aC BB (0:Nat) (m+(19:Nat))))))))))
 else Q (UF (nu (aC BB (0:Nat) (m+(19:Nat)))) (lT (aC BB (0:Nat) (m+(19:Nat))))) (UE ([(c0),(c1),(c2),(c3),(c4),(c5),(c6),(c7),(c8),(c9),(c10),(c11),(c12),(c13),(c14),(c15),(c16),(c17),(c18)]++w) (nu (aC BB (0:Nat) (m+(19:Nat)))) (lT (aC BB (0:Nat) (m+(19:Nat)))) (nu (aC BB (0:Nat) (m+(19:Nat)))) (lT (aC BB (0:Nat) (m+(19:Nat)))))))) (ip c0 c1 c2 c3 c4 c5 c6 c7 c8 c9 c10 c11 c12 c13 c14 c15 c16 c17 c18 w):=by kernel_rfl
abbrev Cr (c0:TV)(c1:TV)(c2:TV)(c3:TV)(c4:TV)(c5:TV)(c6:TV)(c7:TV)(c8:TV)(c9:TV)(c10:TV)(c11:TV)(c12:TV)(c13:TV)(c14:TV)(c15:TV)(c16:TV)(c17:TV)(c18:TV)(z0:Int)(z1:Int)(w:List TV):VT:=(aaW ([(c0),(c1),(c2),(c3),(c4),(c5),(c6),(c7),(c8),(c9),(c10),(c11),(c12),(c13),(c14),(c15),(c16),(c17),(c18),(.val (.int .u8 (z0))),(.val (.int .u8 (z1)))]++w) (wrap i64 z0) (wrap i64 z1) (wrap i64 z0) (wrap i64 z1))
abbrev I0 (z0:Int)(z1:Int):VO:=(lJ (wrap i64 z0) (wrap i64 z1))
theorem SM (c0 c1 c2 c3 c4 c5 c6 c7 c8 c9 c10 c11 c12 c13 c14 c15 c16 c17 c18:TV)(z0 z1:Int)(w:List TV)(Q:TV→VT→Prop):ar prog ae (aF [(nS,nk)]) (aZ [(999998,.dead,none)]) 300 aN 0 DM [.row 1 0 19 2] (cu (.row (ip c0 c1 c2 c3 c4 c5 c6 c7 c8 c9 c10 c11 c12 c13 c14 c15 c16 c17 c18 (.val (.int .u8 z0):: .val (.int .u8 z1)::w)))) Q=
 (IsB []∧
 (((@Eq (Option TV) (.some (bp z1)) (.some (bp z1)))∧
 ((@Eq (Option TV) (.some (bp z0)) (.some (bp z0)))∧
 True))∧
 (bif decide (wrap i64 z0≥(1:Int))
 then (bif decide (wrap i64 z0≤(255:Int))
 then (bif decide (wrap i64 z1≥(0:Int))
 then (bif decide (wrap i64 z1≤(255:Int))
 then Q (.tup [(.agg [(ah (wrap i64 z0)),(ah (wrap i64 z1)),ij]),aI]) ⟨[(bB ([(c0),(c1),(c2),(c3),(c4),(c5),(c6),(c7),(c8),(c9),(c10),(c11),(c12),(c13),(c14),(c15),(c16),(c17),(c18),(.val (.int .u8 (z0))),(.val (.int .u8 (z1)))]++w)),(I0 z0 z1),(I0 z0 z1),(I0 z0 z1)],[]⟩
 else Q ol (Cr c0 c1 c2 c3 c4 c5 c6 c7 c8 c9 c10 c11 c12 c13 c14 c15 c16 c17 c18 z0 z1 w))
 else Q ol (Cr c0 c1 c2 c3 c4 c5 c6 c7 c8 c9 c10 c11 c12 c13 c14 c15 c16 c17 c18 z0 z1 w))
 else Q ol (Cr c0 c1 c2 c3 c4 c5 c6 c7 c8 c9 c10 c11 c12 c13 c14 c15 c16 c17 c18 z0 z1 w))
 else Q ol (Cr c0 c1 c2 c3 c4 c5 c6 c7 c8 c9 c10 c11 c12 c13 c14 c15 c16 c17 c18 z0 z1 w)))):=by kernel_rfl
theorem SN (c0 c1 c2 c3 c4 c5 c6 c7 c8 c9 c10 c11 c12 c13 c14 c15 c16 c17 c18:TV)(w:List TV)(pas:Int)(Q:TV→VT→Prop):ar prog be (aF [(Bq,Ei),(Gi,Le),(GD,Lf),(DM,Lg)]) (aZ [(999999,.dead,none)]) 300 aN 0 GJ [.row 1 0 0 19,.val (.int .i64 pas)] (cu (.row (ip c0 c1 c2 c3 c4 c5 c6 c7 c8 c9 c10 c11 c12 c13 c14 c15 c16 c17 c18 w))) Q=
 (((@Eq (Bool) true true)∧
 (RwOk ([(c0),(c1),(c2),(c3),(c4),(c5),(c6),(c7),(c8),(c9),(c10),(c11),(c12),(c13),(c14),(c15),(c16),(c17),(c18)]++w) 0 19∧
 ((@Eq (Bool) true true)∧
 (@Eq (Nat) 0 0))))∧
 (bif dg (aC (ip c0 c1 c2 c3 c4 c5 c6 c7 c8 c9 c10 c11 c12 c13 c14 c15 c16 c17 c18 w) (0:Nat) (19:Nat))
 then (bif ax neq (k6 (bI (aC (ip c0 c1 c2 c3 c4 c5 c6 c7 c8 c9 c10 c11 c12 c13 c14 c15 c16 c17 c18 w) (0:Nat) (19:Nat))) (↑(19:Nat):Int))
 then Q NK (UJ ([(c0),(c1),(c2),(c3),(c4),(c5),(c6),(c7),(c8),(c9),(c10),(c11),(c12),(c13),(c14),(c15),(c16),(c17),(c18)]++w) c16 c17)
 else (bif ax eql (k6 (ew (aC (ip c0 c1 c2 c3 c4 c5 c6 c7 c8 c9 c10 c11 c12 c13 c14 c15 c16 c17 c18 w) (0:Nat) (19:Nat))) (1:Int))
 then False
 else (bif ax eql (k6 (ew (aC (ip c0 c1 c2 c3 c4 c5 c6 c7 c8 c9 c10 c11 c12 c13 c14 c15 c16 c17 c18 w) (0:Nat) (19:Nat))) (2:Int))
 then False
 else (bif ax eql (k6 (ew (aC (ip c0 c1 c2 c3 c4 c5 c6 c7 c8 c9 c10 c11 c12 c13 c14 c15 c16 c17 c18 w) (0:Nat) (19:Nat))) (3:Int))
 then False
 else Q (UI (ew (aC (ip c0 c1 c2 c3 c4 c5 c6 c7 c8 c9 c10 c11 c12 c13 c14 c15 c16 c17 c18 w) (0:Nat) (19:Nat)))) (UH ([(c0),(c1),(c2),(c3),(c4),(c5),(c6),(c7),(c8),(c9),(c10),(c11),(c12),(c13),(c14),(c15),(c16),(c17),(c18)]++w) (ew (aC (ip c0 c1 c2 c3 c4 c5 c6 c7 c8 c9 c10 c11 c12 c13 c14 c15 c16 c17 c18 w) (0:Nat) (19:Nat))) c16 c17 (ew (aC (ip c0 c1 c2 c3 c4 c5 c6 c7 c8 c9 c10 c11 c12 c13 c14 c15 c16 c17 c18 w) (0:Nat) (19:Nat))))))))
 else Q (UF (nu (aC (ip c0 c1 c2 c3 c4 c5 c6 c7 c8 c9 c10 c11 c12 c13 c14 c15 c16 c17 c18 w) (0:Nat) (19:Nat))) (lT (aC (ip c0 c1 c2 c3 c4 c5 c6 c7 c8 c9 c10 c11 c12 c13 c14 c15 c16 c17 c18 w) (0:Nat) (19:Nat)))) (UE ([(c0),(c1),(c2),(c3),(c4),(c5),(c6),(c7),(c8),(c9),(c10),(c11),(c12),(c13),(c14),(c15),(c16),(c17),(c18)]++w) (nu (aC (ip c0 c1 c2 c3 c4 c5 c6 c7 c8 c9 c10 c11 c12 c13 c14 c15 c16 c17 c18 w) (0:Nat) (19:Nat))) (lT (aC (ip c0 c1 c2 c3 c4 c5 c6 c7 c8 c9 c10 c11 c12 c13 c14 c15 c16 c17 c18 w) (0:Nat) (19:Nat))) (nu (aC (ip c0 c1 c2 c3 c4 c5 c6 c7 c8 c9 c10 c11 c12 c13 c14 c15 c16 c17 c18 w) (0:Nat) (19:Nat))) (lT (aC (ip c0 c1 c2 c3 c4 c5 c6 c7 c8 c9 c10 c11 c12 c13 c14 c15 c16 c17 c18 w) (0:Nat) (19:Nat)))))):=by kernel_rfl
theorem VCx.leRow {P:Program}{G:aV}{f:FuncId}{xs:List TV}{cs:List TV}{y:TV}(hc:∀f g,(VO.row cs).ren f g=.row cs)(hy:∀f g,y.ren f g=y)(h:VCx P G 0 f xs ⟨[.row cs],[]⟩ λx T'=>TVle x y∧T'.objs[0]?=some (.row cs)):
 VCx P G 0 f xs ⟨[.row cs],[]⟩ λx T'=>x=y∧T'=⟨[.row cs],[]⟩:=VCx.fzRow hc hy (h.mono λ_ T' ⟨h1,h2⟩=>⟨T',.le h1,le_refl _,h2⟩)
section
variable {cs:List TV}{off n:Nat}
theorem VP (h:RwOk cs off n):VCx prog ae 0 nS [.row 1 0 off n] ⟨[.row cs],[]⟩ λx T'=>x=.vec 1 (aC cs off n) .none∧T'=⟨[.row cs],[]⟩:=by
 have hb:=h.is
 refine VCx.fzRow h.ren (λf g=>by simp only [TV.ren,hb.ren,Tok.ren]) ?_
 cases n with
 |zero=>
  refine ak ac aa an ai (SL cs off _) ⟨?_,⟨_,.le (.vec 1 _ _),le_refl _,rfl⟩⟩
  obtain ⟨inf,i1,i2,i3,i4⟩:=cO
  have hr:bK ⟨[.row cs],[]⟩ 1 (.row 1 0 off 0)=some []:=by
   have h1:=h.1
   simp only [bK,List.getElem?_cons_zero,beq_refl,Bool.true_and,mul_one,ble_eq_true_of_le h1,cond_true]
   rfl
  have ht:=IW (P:=prog) (G:=ae) (ro:=0) (T:=⟨[.row cs],[]⟩) (t:=22) (tx:=22) (s:=.tmp 5) (x:=.tmp 6) (l:= [(5,.vec 1 [] .full),(6,.row 1 0 off 0)]) (inf:=inf) (id:=0) (off:=off) (n:=0) underlying22 i1 i4 (by rw [i2];rfl) (by rfl) (by kernel_rfl) (by rw [i2];rfl) (by rw [i2];rfl) (by rw [i2];exact hr)
  rw [i2] at ht
  exact ht
 |succ n=>
  obtain ⟨q0,qs,hq⟩:∃q0 qs,aC cs off (n+1)=q0::qs:=⟨_,_,rfl⟩
  have hl:(q0::qs).length=n+1:=by rw [←hq];exact iN _ _ _
  have hr:bK ⟨[.row cs],[]⟩ 1 (.row 1 0 off (n+1))=some (q0::qs):=by
   have h1:=h.1
   simp only [bK,List.getElem?_cons_zero,beq_refl,Bool.true_and,mul_one,ble_eq_true_of_le h1,cond_true]
   rw [←hq];rfl
  obtain ⟨inf,i1,i2,i3,i4⟩:=cO
  refine ak ac aa an ai (VJ cs (q0::qs).flatten off (n+1) _) ⟨?_,?_⟩
  ·have ht:=IV (P:=prog) (G:=ae) (ro:=0) (T:=⟨[.row cs],[]⟩) (t:=22) (tx:=22) (s:=.tmp 5) (x:=.tmp 6) (l:= [(5,.vec 1 [] .full),(6,.row 1 0 off (n+1))]) (inf:=inf) (q0:=q0) (qs:=qs) (id:=0) (off:=off) (n:=n+1) underlying22 i1 i4 (by rw [i2];rfl) (by rfl) (by kernel_rfl) (by rw [i2];rfl) (by rw [i2];rfl) (by rw [i2];exact hr) (by
     have:=h.1
     have:=h.2.1
     rw [i3,hl];omega)
   rw [i2,hl] at ht
   exact ht
  ·rw [hq]
   refine ⟨_,.row (es:=q0::qs) ?_,GK _ 1,rfl⟩
   rw [←hl]
   exact jT rfl (by rw [←hq];exact hb.len1)
theorem Lh:∀ro ys T K,P0 ro ys T K→VCx prog ae ro nS ys T K:=by
 intro ro ys T K hw
 unfold P0 at hw
 split at hw
 ·split at hw
  ·rename_i k off n cs ho
   obtain ⟨⟨hro,h⟩,hk⟩:=hw
   exact VCx.atRow au (le_of_ble_eq_true hro) ho h.ren (λf g=>by simp only [TV.ren,h.is.ren,Tok.ren]) (by simp [ap,TV.ren,aU]) (VP h) hk
  ·exact hw.elim
 ·exact hw.elim
theorem SO (h:RwOk cs off n):VCx prog ae 0 kJ [.row 1 0 off n] ⟨[.row cs],[]⟩ λx T'=>x=.ptr 1 0∧T'=⟨[.row cs,aM (aC cs off n) 0 0],[]⟩:=
 ak ac aa (aL λp hp=>by obtain rfl:=mem_singleton.1 hp;exact Lh) ai (SK cs off n _) ⟨⟨rfl,h⟩,rfl,rfl⟩
theorem Li:∀ro ys T K,GL ro ys T K→VCx prog ae ro kJ ys T K:=by
 intro ro ys T K hw
 unfold GL at hw
 split at hw
 ·split at hw
  ·rename_i k off n _ cs ho
   obtain ⟨⟨hro,h⟩,hk⟩:=hw
   refine VCx.at1 (Q:=λx o' l'=>x=.ptr 1 0∧o'=.row cs∧l'= [aM (aC cs off n) 0 0]) au (le_of_ble_eq_true hro) ho rfl (h.ren _ _) (ys1:= [.row 1 0 off n]) (by simp [ap,TV.ren,aU]) ((SO h).mono λx T' ⟨h1,h2⟩=>⟨_,_,h2,h1,rfl,rfl⟩) ?_
   rintro x o' l' ⟨rfl,rfl,rfl⟩
   rw [h.ren,pc ho]
   simpa [TV.ren,ba,bH h.is] using hk
  ·exact hw.elim
 ·exact hw.elim
end
section
variable {b:Bs}{cs:List TV}
theorem mI {s:Int}{d:Bs}{dz:TV}{T':VT}(h0:T'.objs[0]?=some (.row cs))(h:iL b=.inl (s,d))(hd:TVle dz (.vec 1 d .none)):TVle (TV.tup [.agg [.val (.slice none 0 0),.val (.int .i64 0),.val (.slice none 0 0),.val (.int .u32 0),.val (.int .i64 0),.val (.bool false),.val (.slice none 0 0)],.agg [.val (.int .i64 3),.val (.int .i64 s),dz]]) (qn b)∧T'.objs[0]?=some (.row cs):=by
 unfold qn Ee
 rw [h]
 exact ⟨.tup ⟨.agg ⟨.nil 2,.refl _,.nil 1,.refl _,.refl _,.refl _,.nil 2,trivial⟩,.agg ⟨.refl _,.refl _,hd,trivial⟩,trivial⟩,h0⟩
theorem px {T':VT}{pz:TV}(h0:T'.objs[0]?=some (.row cs))(h:iL b=.inr {nW with w:=bg (im b),n:=bg (eX b)})(hp:TVle pz (.vec 1 [] .none)):TVle (TV.tup [.agg [.vec 2 (bg (im b)) .none,.val (.int .i64 0),pz,.val (.int .u32 0),.val (.int .i64 0),.val (.bool false),.vec 2 (bg (eX b)) .none],.agg [.val (.int .i64 0),.val (.int .i64 0),.val (.slice none 0 0)]]) (qn b)∧T'.objs[0]?=some (.row cs):=by
 unfold qn Ee
 rw [h]
 exact ⟨.tup ⟨.agg ⟨.refl _,.refl _,hp,.refl _,.refl _,.refl _,.refl _,trivial⟩,.agg ⟨.refl _,.refl _,.nil 1,trivial⟩,trivial⟩,h0⟩
theorem Ej {T':VT}(h0:T'.objs[0]?=some (.row cs))(h:iL b=.inr ⟨bg (im b),nJ (cI b),i9 (cI b),nK (cI b),nL (cI b),nM (cI b),bg (eX b)⟩):TVle (TV.tup [.agg [.vec 2 (bg (im b)) .none,.val (.int .i64 (nJ (cI b))),.vec 1 (i9 (cI b)) .none,.val (.int .u32 (nK (cI b))),.val (.int .i64 (nL (cI b))),.val (.bool (nM (cI b))),.vec 2 (bg (eX b)) .none],.agg [.val (.int .i64 0),.val (.int .i64 0),.val (.slice none 0 0)]]) (qn b)∧T'.objs[0]?=some (.row cs):=by
 unfold qn Ee
 rw [h]
 exact ⟨.tup ⟨.refl _,.agg ⟨.refl _,.refl _,.nil 1,trivial⟩,trivial⟩,h0⟩
end
theorem VQ {cs:List TV}{off n:Nat}(hr:RwOk cs off n):VCx prog ae 0 GD [.row 1 0 off n] ⟨[.row cs],[]⟩ λx T'=>x=qn (aC cs off n)∧T'=⟨[.row cs],[]⟩:=by
 have hb:=hr.is
 have hS:bf prog ae (aF [(kJ,GL),(m8,me .i64 2),(kb,Bb),(It,yH),(jy,mc),(pk,IK),(uA,PX)]):=aL λp hp=>by
  rcases mem_cons.1 hp with rfl | hp;exact Li
  rcases mem_cons.1 hp with rfl | hp;exact λro ys T K h=>vI _ _ _ _ (np h)
  rcases mem_cons.1 hp with rfl | hp;exact λro ys T K h=>uc _ _ _ _ (DL h)
  rcases mem_cons.1 hp with rfl | hp;exact λro ys T K h=>UZ _ _ _ _ (Ks h)
  rcases mem_cons.1 hp with rfl | hp;exact ru
  rcases mem_cons.1 hp with rfl | hp;exact SC λ_ h=>U8 h
  obtain rfl:=mem_singleton.1 hp;exact VA Vz
 refine VCx.leRow hr.ren (GC hb) (ak ac aa hS ai (VH cs off n _) ?_)
 refine ⟨⟨rfl,hr⟩,⟨rfl,hb⟩,?_⟩
 generalize aC cs off n=b at hb
 intro z bz az ez hq1
 have hbz:IsB bz:=by rw [hq1.2.1];exact aK hb
 refine ⟨⟨rfl,hbz⟩,?_⟩
 intro v b2 a2 e2 hq2
 have hb2:IsB b2:=by rw [hq2.2.1];exact aK hbz
 refine ⟨⟨rfl,hb2⟩,?_⟩
 intro z3 b3 a3 e3 hq3
 have hb3:IsB b3:=by rw [hq3.2.1];exact aK hb2
 refine ⟨⟨rfl,hb3⟩,?_⟩
 intro v4 b4 a4 e4 hq4
 have hb4:IsB b4:=by rw [hq4.2.1];exact aK hb3
 refine ⟨⟨rfl,hb4⟩,?_⟩
 intro v5 b5 a5 e5 hq5
 have hb5:IsB b5:=by rw [hq5.2.1];exact aK hb4
 refine ⟨⟨rfl,hb5⟩,?_⟩
 obtain ⟨rfl,rfl,rfl,rfl⟩:=VB (z2:=0) (e6:=0) hq1 hq2 hq3 hq4 ⟨hq5.1,hq5.2.2⟩
 have hG:=K1 hb
 have hA:=yT hb
 have hN:=K2 hb
 refine aq (λc1=> ?_) (λc1=> ?_)
 ·exact mI rfl (by unfold iL;rw [if_pos (fp c1)]) (.nil 1)
 replace c1:K0 b=0:=fq c1
 refine ⟨hG,aq (λc2=> ?_) (λc2=> ?_)⟩
 rotate_left
 ·exact mI rfl (by unfold iL;rw [if_neg (λc=>c c1),c2];rfl) (.nil 1)
 refine ⟨hN,aq (λc3=> ?_) (λc3=> ?_)⟩
 rotate_left
 ·exact mI rfl (by unfold iL;rw [if_neg (λc=>c c1),c2,c3];rfl) (.nil 1)
 have hu:iL b=(if (cI b).length=0∧(bg (eX b)).length=0 then .inr {nW with w:=bg (im b),n:=bg (eX b)}
  else bif hZ (cI b) then (if 0<(bg (eX b)).length then .inr ⟨bg (im b),nJ (cI b),i9 (cI b),nK (cI b),nL (cI b),nM (cI b),bg (eX b)⟩ else .inr {nW with w:=bg (im b),n:=bg (eX b)})
  else if 0<(bg (eX b)).length then .inl (kf (cI b),jG (cI b)) else if kf (cI b)=3 then .inr {nW with w:=bg (im b),n:=bg (eX b)} else .inl (kf (cI b),jG (cI b))):=by
  unfold iL;rw [if_neg (λc=>c c1),c2,c3];rfl
 refine aq (λc4=> ?_) (λc4=> ?_)
 ·replace c4:=dM c4
  refine aq (λc5=> ?_) (λc5=> ?_)
  ·exact px rfl (by rw [hu,if_pos ⟨ofNat_inj.1 c4,ofNat_inj.1 (dM c5)⟩]) (.nil 1)
  have hne:¬((cI b).length=0∧(bg (eX b)).length=0):=λh=>dq c5 (ofNat_inj.2 h.2)
  refine ⟨hA,aq (λc6=> ?_) (λc6=> ?_)⟩
  ·refine aq (λc7=> ?_) (λc7=> ?_)
   ·exact aS c7 (Ej rfl (by rw [hu,if_neg hne,c6];simp only [cond_true];rw [if_pos (PY c7)]))
   ·exact aO c7 (px rfl (by rw [hu,if_neg hne,c6];simp only [cond_true];rw [if_neg (As c7)]) (.nil 1))
  ·refine aq (λc7=> ?_) (λc7=> ?_)
   ·exact mI rfl (by rw [hu,if_neg hne,c6];simp only [cond_false];rw [if_pos (PY c7)]) (.refl _)
   refine aq (λc8=> ?_) (λc8=> ?_)
   ·exact mI rfl (by rw [hu,if_neg hne,c6];simp only [cond_false];rw [if_neg (As c7),if_neg (fp c8)]) (.refl _)
   ·exact aO c7 (px rfl (by rw [hu,if_neg hne,c6];simp only [cond_false];rw [if_neg (As c7),if_pos (fq c8)]) (.nil 1))
 ·have hne:¬((cI b).length=0∧(bg (eX b)).length=0):=λh=>dq c4 (ofNat_inj.2 h.1)
  refine ⟨hA,aq (λc6=> ?_) (λc6=> ?_)⟩
  ·refine aq (λc7=> ?_) (λc7=> ?_)
   ·exact aS c7 (Ej rfl (by rw [hu,if_neg hne,c6];simp only [cond_true];rw [if_pos (PY c7)]))
   ·exact aO c7 (px rfl (by rw [hu,if_neg hne,c6];simp only [cond_true];rw [if_neg (As c7)]) (.nil 1))
  ·refine aq (λc7=> ?_) (λc7=> ?_)
   ·exact mI rfl (by rw [hu,if_neg hne,c6];simp only [cond_false];rw [if_pos (PY c7)]) (.refl _)
   refine aq (λc8=> ?_) (λc8=> ?_)
   ·exact mI rfl (by rw [hu,if_neg hne,c6];simp only [cond_false];rw [if_neg (As c7),if_neg (fp c8)]) (.refl _)
   ·exact aO c7 (px rfl (by rw [hu,if_neg hne,c6];simp only [cond_false];rw [if_neg (As c7),if_pos (fq c8)]) (.nil 1))
set_option maxHeartbeats 1000000 in
theorem VS {cs:List TV}{off n:Nat}(hr:RwOk cs off n)(pas:Int):VCx prog ae 0 Gi [.row 1 0 off n,.val (.int .i64 pas)] ⟨[.row cs],[]⟩ λx T'=>x=jC (aC cs off n) pas∧T'=⟨[.row cs],[]⟩:=by
 have hb:=hr.is
 have hS:bf prog ae (aF [(kJ,GL),(i7,me .i64 1),(m8,me .i64 2),(Ch,me .u32 4),(kK,nR),(nI,PP)]):=aL λp hp=>by
  rcases mem_cons.1 hp with rfl | hp;exact Li
  rcases mem_cons.1 hp with rfl | hp;exact λro ys T K h=>rt _ _ _ _ (np h)
  rcases mem_cons.1 hp with rfl | hp;exact λro ys T K h=>vI _ _ _ _ (np h)
  rcases mem_cons.1 hp with rfl | hp;exact λro ys T K h=>RM _ _ _ _ (np h)
  rcases mem_cons.1 hp with rfl | hp;exact pj
  obtain rfl:=mem_singleton.1 hp;exact Vf
 have hX:=GG pas hb
 refine VCx.leRow hr.ren hX (ak ac aa hS ai (VI cs off n pas _) ?_)
 clear hX
 by_cases h10:(aC cs off n).length<10
 ·refine aS (decide_eq_true (by rw [iN] at h10;omega)) ⟨?_,rfl⟩
  unfold jC;rw [if_pos h10];exact dl 0
 refine aO (decide_eq_false (by rw [iN] at h10;omega)) ⟨⟨rfl,hr⟩,⟨rfl,hb⟩,?_⟩
 generalize aC cs off n=b at*
 intro z bz az ez hq
 have hbz:IsB bz:=by rw [hq.2.1];exact aK hb
 refine aq (λh=> ?_) (λh=> ?_)
 ·refine ⟨?_,rfl⟩
  have h4:=fp h;rw [hq.1] at h4
  unfold jC;rw [if_neg h10,if_pos h4];exact Om _
 have h4:=fq h;rw [hq.1] at h4
 have hX:jC b pas=vL bz ez pas:=by unfold jC;rw [if_neg h10,if_neg (λc=>c h4),hq.2.1,hq.2.2];rfl
 refine ⟨⟨rfl,hbz⟩,?_⟩
 intro n b2 a2 e2 hq2
 have hb2:IsB b2:=by rw [hq2.2.1];exact aK hbz
 refine ⟨⟨rfl,hb2⟩,?_⟩
 intro hh b3 a3 e3 hq3
 have hb3:IsB b3:=by rw [hq3.2.1];exact aK hb2
 refine ⟨⟨rfl,hb3⟩,?_⟩
 intro i b4 a4 e4 hq4
 have hb4:IsB b4:=by rw [hq4.2.1];exact aK hb3
 refine ⟨⟨rfl,hb4⟩,?_⟩
 intro k b5 a5 e5 hq5
 have hb5:IsB b5:=by rw [hq5.2.1];exact aK hb4
 have hM:jC b pas=fU n hh i k b5 e5 pas:=by
  rw [hX]
  obtain ⟨rfl,rfl,rfl⟩:=hq2
  obtain ⟨rfl,rfl,rfl⟩:=hq3
  obtain ⟨rfl,rfl,rfl⟩:=hq4
  obtain ⟨rfl,rfl,rfl⟩:=hq5
  rfl
 clear hX hq hq2 hq3 hq4 hq5
 rw [hM]
 refine aq (λc1=> ?_) (λc1=> ?_)
 ·rw [Ze (dM c1)];exact ⟨dl 2,rfl⟩
 have d1:=dq c1
 refine aq (λc2=> ?_) (λc2=> ?_)
 ·have d2:=of_decide_eq_true c2
  refine aq (λc3=> ?_) (λc3=> ?_)
  ·rw [Zf d1 d2 (fp c3)];exact ⟨dl 2,rfl⟩
  ·have d3:¬(pas≥1∧¬n=pas):=λc=>c.2 (fq c3)
   refine aq (λc4=> ?_) (λc4=> ?_)
   ·have d4:hh=0∨(hh≥3∧hh≤65535):=.inl (dM c4)
    refine aq (λc5=> ?_) (λc5=> ?_)
    ·rw [Ck d1 d3 d4 (dM c5)];exact ⟨dl 3,rfl⟩
    refine ⟨⟨rfl,hb5⟩,?_⟩
    refine aq (λc6=> ?_) (λc6=> ?_)
    ·rw [Cl d1 d3 d4 (dq c5) (fp c6)];exact ⟨dl 0,rfl⟩
    refine ⟨⟨rfl,hb5⟩,λby6 ay6 ey6=> ?_⟩
    rw [Cm d1 d3 d4 (dq c5) (fq c6)]
    cases gq b5 e5
    ·exact ⟨dl _,rfl⟩
    ·refine ⟨?_,rfl⟩
     exact vM _ _ _ _ _
   ·have d0:=dq c4
    refine aq (λc4a=> ?_) (λc4a=> ?_)
    ·have d4a:=of_decide_eq_true c4a
     refine aq (λc4b=> ?_) (λc4b=> ?_)
     ·have d4:¬(hh=0∨(hh≥3∧hh≤65535)):=by
       have:=of_decide_eq_false (show decide (hh≤65535)=false by cases h:decide (hh≤65535)<;>simp_all)
       omega
      rw [Cj d1 d3 d4];exact ⟨dl 6,rfl⟩
     ·have d4:hh=0∨(hh≥3∧hh≤65535):=.inr ⟨d4a,of_decide_eq_true (by simpa using c4b)⟩
      refine aq (λc5=> ?_) (λc5=> ?_)
      ·rw [Ck d1 d3 d4 (dM c5)];exact ⟨dl 3,rfl⟩
      refine ⟨⟨rfl,hb5⟩,?_⟩
      refine aq (λc6=> ?_) (λc6=> ?_)
      ·rw [Cl d1 d3 d4 (dq c5) (fp c6)];exact ⟨dl 0,rfl⟩
      refine ⟨⟨rfl,hb5⟩,λby6 ay6 ey6=> ?_⟩
      rw [Cm d1 d3 d4 (dq c5) (fq c6)]
      cases gq b5 e5
      ·exact ⟨dl _,rfl⟩
      ·refine ⟨?_,rfl⟩
       exact vM _ _ _ _ _
    ·have d4a:=of_decide_eq_false c4a
     have d4:¬(hh=0∨(hh≥3∧hh≤65535)):=by omega
     rw [Cj d1 d3 d4];exact ⟨dl 6,rfl⟩
 ·have d3:¬(pas≥1∧¬n=pas):=λc=>of_decide_eq_false c2 c.1
  refine aq (λc4=> ?_) (λc4=> ?_)
  ·have d4:hh=0∨(hh≥3∧hh≤65535):=.inl (dM c4)
   refine aq (λc5=> ?_) (λc5=> ?_)
   ·rw [Ck d1 d3 d4 (dM c5)];exact ⟨dl 3,rfl⟩
   refine ⟨⟨rfl,hb5⟩,?_⟩
   refine aq (λc6=> ?_) (λc6=> ?_)
   ·rw [Cl d1 d3 d4 (dq c5) (fp c6)];exact ⟨dl 0,rfl⟩
   refine ⟨⟨rfl,hb5⟩,λby6 ay6 ey6=> ?_⟩
   rw [Cm d1 d3 d4 (dq c5) (fq c6)]
   cases gq b5 e5
   ·exact ⟨dl _,rfl⟩
   ·refine ⟨?_,rfl⟩
    exact vM _ _ _ _ _
  ·have d0:=dq c4
   refine aq (λc4a=> ?_) (λc4a=> ?_)
   ·have d4a:=of_decide_eq_true c4a
    refine aq (λc4b=> ?_) (λc4b=> ?_)
    ·have d4:¬(hh=0∨(hh≥3∧hh≤65535)):=by
      have:=of_decide_eq_false (show decide (hh≤65535)=false by cases h:decide (hh≤65535)<;>simp_all)
      omega
     rw [Cj d1 d3 d4];exact ⟨dl 6,rfl⟩
    ·have d4:hh=0∨(hh≥3∧hh≤65535):=.inr ⟨d4a,of_decide_eq_true (by simpa using c4b)⟩
     refine aq (λc5=> ?_) (λc5=> ?_)
     ·rw [Ck d1 d3 d4 (dM c5)];exact ⟨dl 3,rfl⟩
     refine ⟨⟨rfl,hb5⟩,?_⟩
     refine aq (λc6=> ?_) (λc6=> ?_)
     ·rw [Cl d1 d3 d4 (dq c5) (fp c6)];exact ⟨dl 0,rfl⟩
     refine ⟨⟨rfl,hb5⟩,λby6 ay6 ey6=> ?_⟩
     rw [Cm d1 d3 d4 (dq c5) (fq c6)]
     cases gq b5 e5
     ·exact ⟨dl _,rfl⟩
     ·refine ⟨?_,rfl⟩
      exact vM _ _ _ _ _
   ·have d4a:=of_decide_eq_false c4a
    have d4:¬(hh=0∨(hh≥3∧hh≤65535)):=by omega
    rw [Cj d1 d3 d4];exact ⟨dl 6,rfl⟩
section
variable {P:Program}{G:aV}
theorem Lj {t e:TypeId}{x i:Operand}{l:List (Nat × TV)}{inf:TypeInfo}{id off n:Nat}{k:IntKind}{z:Int}(ht:P.underlying t=some (.slice e))(hi:P.info? e=some inf)
  (hx:aP G l x=.row inf.size id off n) (hz:aP G l i=.val (.int k z)) (h0:0≤z) (h1:z.toNat<n):bc P G (.slice t x (some i) none none) l (.row inf.size id (off+z.toNat) (n-z.toNat)):=by
 refine ⟨?_⟩
 have h2:beq z.toNat n=false:=by
  cases hb:beq z.toNat n
  ·rfl
  ·have:=Nat.eq_of_beq_eq_true hb;omega
 have h3:ble z.toNat n=true:=ble_eq_true_of_le (by omega)
 have h4:ble n n=true:=ble_eq_true_of_le (le_refl _)
 have hlow:fk (some (aP G l i))=some z.toNat:=by simp [fk,fj,hz,h0]
 have hR:gS P t (aP G l x) (some (aP G l i)) none none=some (.row inf.size id (off+z.toNat) (n-z.toNat)):=by
  rw [hx]
  simp only [gS,ht,hi,hlow,tD]
  generalize z.toNat=w at h1 h2 h3 ⊢
  cases w with
  |zero=>simp [h4,beq_refl,ble_eq_true_of_le (zero_le n)]
  |succ w=>simp [h2,h3,h4,beq_refl]
 simp [bu,jP,hR]
end
theorem py {G:aV}{x i:Operand}{l:List (Nat × TV)}{id off n:Nat}{k:IntKind}{z:Int}(hx:aP G l x=.row 1 id off n)(hz:aP G l i=.val (.int k z))(h0:0≤z)(h1:z<n):bc prog G (.indexAddr 22 x i) l (.ptr id (off+z.toNat)):=by
 obtain ⟨inf,i1,i2,_,_⟩:=cO
 have h:=Dt (P:=prog) (G:=G) (t:=22) (x:=x) (i:=i) (l:=l) (inf:=inf) (id:=id) (off:=off) (n:=n) underlying22 i1 (by rw [i2];exact hx) hz h0 h1
 rw [i2,mul_one,mul_one] at h
 exact h
theorem uE {G:aV}{x i:Operand}{l:List (Nat × TV)}{id off n:Nat}{k:IntKind}{z:Int}(hx:aP G l x=.row 1 id off n)(hz:aP G l i=.val (.int k z))(h0:0≤z)(h1:z.toNat<n):bc prog G (.slice 22 x (some i) none none) l (.row 1 id (off+z.toNat) (n-z.toNat)):=by
 obtain ⟨inf,i1,i2,_,_⟩:=cO
 have h:=Lj (P:=prog) (G:=G) (t:=22) (x:=x) (i:=i) (l:=l) (inf:=inf) (id:=id) (off:=off) (n:=n) underlying22 i1 (by rw [i2];exact hx) hz h0 h1
 rw [i2] at h
 exact h
theorem zb {l:List Int}(h:19≤l.length):∃(z0 z1 z2 z3 z4 z5 z6 z7 z8 z9 z10 z11 z12 z13 z14 z15 z16 z17 z18:Int) (l2:List Int),l=z0::z1::z2::z3::z4::z5::z6::z7::z8::z9::z10::z11::z12::z13::z14::z15::z16::z17::z18::l2:=by
 obtain ⟨z0,l0,e0,h0⟩:=kx h
 subst e0
 obtain ⟨z1,l1,e1,h1⟩:=kx h0
 subst e1
 obtain ⟨z2,l2,e2,h2⟩:=kx h1
 subst e2
 obtain ⟨z3,l3,e3,h3⟩:=kx h2
 subst e3
 obtain ⟨z4,l4,e4,h4⟩:=kx h3
 subst e4
 obtain ⟨z5,l5,e5,h5⟩:=kx h4
 subst e5
 obtain ⟨z6,l6,e6,h6⟩:=kx h5
 subst e6
 obtain ⟨z7,l7,e7,h7⟩:=kx h6
 subst e7
 obtain ⟨z8,l8,e8,h8⟩:=kx h7
 subst e8
 obtain ⟨z9,l9,e9,h9⟩:=kx h8
 subst e9
 obtain ⟨z10,l10,e10,h10⟩:=kx h9
 subst e10
 obtain ⟨z11,l11,e11,h11⟩:=kx h10
 subst e11
 obtain ⟨z12,l12,e12,h12⟩:=kx h11
 subst e12
 obtain ⟨z13,l13,e13,h13⟩:=kx h12
 subst e13
 obtain ⟨z14,l14,e14,h14⟩:=kx h13
 subst e14
 obtain ⟨z15,l15,e15,h15⟩:=kx h14
 subst e15
 obtain ⟨z16,l16,e16,h16⟩:=kx h15
 subst e16
 obtain ⟨z17,l17,e17,h17⟩:=kx h16
 subst e17
 obtain ⟨z18,l18,e18,h18⟩:=kx h17
 subst e18
 exact ⟨z0,z1,z2,z3,z4,z5,z6,z7,z8,z9,z10,z11,z12,z13,z14,z15,z16,z17,z18,l18,rfl⟩
theorem vP {l:List Int}{off n:Nat}(h:RwOk (l.map eY) off n):aC (l.map eY) off n=bV ((l.drop off).take n):=ov (by have:=h.1;rwa [length_map] at this)
set_option maxHeartbeats 1000000 in
theorem VU {cs:List TV}{n:Nat}(hr:RwOk cs 19 n)(hn:2≤n):VCx prog ae 0 DM [.row 1 0 19 n] ⟨[.row cs],[]⟩ λx T'=>x=Gj (aC cs 19 n)∧T'=⟨[.row cs],[]⟩:=by
 have hb:=hr.is
 refine VCx.leRow hr.ren (GH hb) ?_
 obtain ⟨m,rfl⟩:∃m,n=m+2:=⟨n-2,by omega⟩
 have hr0:=hr
 obtain ⟨h1,h2,l,rfl,hz⟩:=hr
 rw [length_map] at h1 h2
 obtain ⟨z0,z1,z2,z3,z4,z5,z6,z7,z8,z9,z10,z11,z12,z13,z14,z15,z16,z17,z18,l2,rfl⟩:=zb (l:=l) (by omega)
 obtain ⟨y0,l3,e3,h3⟩:=kx (n:=m+1) (l:=l2) (by simp only [length_cons] at h1;omega)
 subst e3
 obtain ⟨y1,l4,e4,h4⟩:=kx (n:=m) (l:=l3) h3
 subst e4
 have hsb:=vP hr0
 have hsb2:aC ((z0::z1::z2::z3::z4::z5::z6::z7::z8::z9::z10::z11::z12::z13::z14::z15::z16::z17::z18::y0::y1::l4).map eY) 19 (m+2)=bT y0::bT y1::bV (l4.take m):=hsb
 have hr2:RwOk ((z0::z1::z2::z3::z4::z5::z6::z7::z8::z9::z10::z11::z12::z13::z14::z15::z16::z17::z18::y0::y1::l4).map eY) 21 m:=hr0.sub (by simp only [length_map,length_cons];omega)
 have hsb3:aC ((z0::z1::z2::z3::z4::z5::z6::z7::z8::z9::z10::z11::z12::z13::z14::z15::z16::z17::z18::y0::y1::l4).map eY) 21 m=bV (l4.take m):=vP hr2
 have i0:inZ y0:=hz y0 (by simp)
 have i1:inZ y1:=hz y1 (by simp)
 have hml:(bV (l4.take m)).length=m:=by rw [←hsb3];exact iN _ _ _
 rw [hsb2]
 have hq:ip (.val (.int .u8 z0)) (.val (.int .u8 z1)) (.val (.int .u8 z2)) (.val (.int .u8 z3)) (.val (.int .u8 z4)) (.val (.int .u8 z5)) (.val (.int .u8 z6)) (.val (.int .u8 z7)) (.val (.int .u8 z8)) (.val (.int .u8 z9)) (.val (.int .u8 z10)) (.val (.int .u8 z11)) (.val (.int .u8 z12)) (.val (.int .u8 z13)) (.val (.int .u8 z14)) (.val (.int .u8 z15)) (.val (.int .u8 z16)) (.val (.int .u8 z17)) (.val (.int .u8 z18)) (TV.val (Value.int u8 y0)::TV.val (Value.int u8 y1)::l4.map eY)=(z0::z1::z2::z3::z4::z5::z6::z7::z8::z9::z10::z11::z12::z13::z14::z15::z16::z17::z18::y0::y1::l4).map eY:=rfl
 have hO:jB (bT y0::bT y1::bV (l4.take m))=(decide (m≤4075)&& !decide (y0=0)):=by
  unfold jB
  have e1:2≤(bT y0::bT y1::bV (l4.take m)).length:=by simp
  rw [decide_eq_true e1,Bool.true_and]
  show (decide ((bV (l4.take m)).length≤4075)&& !decide (y0=0))=_
  rw [hml]
 have bad:jB (bT y0::bT y1::bV (l4.take m))=false→TVle (.tup [.agg [.val (.int .i64 0),.val (.int .i64 0),.val (.slice none 0 0)],.val (.bool false)]) (Gj (bT y0::bT y1::bV (l4.take m))):=λh=>by
  rw [yZ,h]
  exact .tup ⟨.agg ⟨.refl _,.refl _,.nil 1,trivial⟩,.refl _,trivial⟩
 by_cases hm0:m=0
 ·subst hm0
  refine ak ac aa (aL λp hp=>by obtain rfl:=mem_singleton.1 hp;exact ql) ai (SM (.val (.int .u8 z0)) (.val (.int .u8 z1)) (.val (.int .u8 z2)) (.val (.int .u8 z3)) (.val (.int .u8 z4)) (.val (.int .u8 z5)) (.val (.int .u8 z6)) (.val (.int .u8 z7)) (.val (.int .u8 z8)) (.val (.int .u8 z9)) (.val (.int .u8 z10)) (.val (.int .u8 z11)) (.val (.int .u8 z12)) (.val (.int .u8 z13)) (.val (.int .u8 z14)) (.val (.int .u8 z15)) (.val (.int .u8 z16)) (.val (.int .u8 z17)) (.val (.int .u8 z18)) y0 y1 (l4.map eY) _) ?_
  refine ⟨.nil,⟨rfl,rfl,trivial⟩,?_⟩
  rw [i0.wrap,i1.wrap]
  refine aq (λc1=> ?_) (λc1=> ?_)
  rotate_left
  ·exact ⟨bad (by rw [hO,decide_eq_true (show y0=0 by have:=of_decide_eq_false c1;have:=i0.1;omega)];simp),rfl⟩
  refine aS (decide_eq_true (by have:=i0.2;omega)) (aS (decide_eq_true i1.1) (aS (decide_eq_true (by have:=i1.2;omega)) ⟨?_,rfl⟩))
  have hy0:¬y0=0:=by have:=of_decide_eq_true c1;omega
  rw [yZ,show jB (bT y0::bT y1::bV (l4.take 0))=true by rw [hO,decide_eq_false hy0];rfl]
  exact .refl _
 refine ak ac aa (aL λp hp=>by obtain rfl:=mem_singleton.1 hp;exact Lh) ai (VK (.val (.int .u8 z0)) (.val (.int .u8 z1)) (.val (.int .u8 z2)) (.val (.int .u8 z3)) (.val (.int .u8 z4)) (.val (.int .u8 z5)) (.val (.int .u8 z6)) (.val (.int .u8 z7)) (.val (.int .u8 z8)) (.val (.int .u8 z9)) (.val (.int .u8 z10)) (.val (.int .u8 z11)) (.val (.int .u8 z12)) (.val (.int .u8 z13)) (.val (.int .u8 z14)) (.val (.int .u8 z15)) (.val (.int .u8 z16)) (.val (.int .u8 z17)) (.val (.int .u8 z18)) y0 y1 (l4.map eY) m _) ?_
 refine ⟨py (z:=0) (n:=m+2) rfl rfl (by decide) (by omega),py (z:=1) (n:=m+2) rfl rfl (by decide) (by omega),uE (z:=2) (n:=m+2) rfl rfl (by decide) (by show 2<m+2;omega),⟨rfl,hr2⟩,⟨rfl,rfl,trivial⟩,?_⟩
 rw [i0.wrap,i1.wrap,hq,hsb3]
 refine aq (λc1=> ?_) (λc1=> ?_)
 rotate_left
 ·exact ⟨bad (by rw [hO,decide_eq_true (show y0=0 by have:=of_decide_eq_false c1;have:=i0.1;omega)];simp),rfl⟩
 refine aS (decide_eq_true (by have:=i0.2;omega)) (aS (decide_eq_true i1.1) (aS (decide_eq_true (by have:=i1.2;omega)) ?_))
 have hy0:¬y0=0:=by have:=of_decide_eq_true c1;omega
 by_cases h5:m≤4075
 ·refine aO (by rw [hml,decide_eq_true (show ((m:Nat):Int)≤4075 by omega)];rfl) ⟨?_,rfl⟩
  rw [yZ,show jB (bT y0::bT y1::bV (l4.take m))=true by rw [hO,decide_eq_true h5,decide_eq_false hy0];rfl]
  exact .refl _
 ·refine aS (by rw [hml,decide_eq_false (show ¬((m:Nat):Int)≤4075 by omega)];rfl) ⟨bad (by rw [hO,decide_eq_false h5];rfl),rfl⟩
theorem or2 {z16 z17:Int}(h16:inZ z16)(h17:inZ z17):wrap u64 (↑(toNat (ofInt (IntKind.bits u64) (wrap u64 (wrap u64 (↑(toNat (ofInt (IntKind.bits u64) (wrap u64 ((0:Int)*(2:Int)^min (Int.toNat (8:Int)) (IntKind.bits u64))) ||| ofInt (IntKind.bits u64) (wrap u64 z16))):Int)*(2:Int)^min (Int.toNat (8:Int)) (IntKind.bits u64))) ||| ofInt (IntKind.bits u64) (wrap u64 z17))):Int)=(0*256+z16)*256+z17:=by
 have a:=h16.1;have b:=h16.2;have c:=h17.1;have d:=h17.2
 rw [cH (n:=0) (z:=z16) (by omega) (by omega) (by omega) (by omega),cH (n:=0*256+z16) (z:=z17) (by omega) (by omega) (by omega) (by omega)]
theorem SP {cs:List TV}{n:Nat}(hr:RwOk cs 0 n)(hn:19≤n):VCx prog ae 0 IY [.row 1 0 0 n,.val (.int .i64 16)] ⟨[.row cs],[]⟩ λx T'=>x=.tup [.val (.int .i64 (io (aC cs 0 n))),.val (.bool true)]∧T'=⟨[.row cs],[]⟩:=by
 refine VCx.leRow hr.ren (λ_ _=>rfl) ?_
 obtain ⟨m,rfl⟩:∃m,n=m+19:=⟨n-19,by omega⟩
 have hr0:=hr
 obtain ⟨h1,h2,l,rfl,hz⟩:=hr
 rw [length_map] at h1 h2
 obtain ⟨z0,z1,z2,z3,z4,z5,z6,z7,z8,z9,z10,z11,z12,z13,z14,z15,z16,z17,z18,l2,rfl⟩:=zb (l:=l) (by omega)
 have hsb:aC ((z0::z1::z2::z3::z4::z5::z6::z7::z8::z9::z10::z11::z12::z13::z14::z15::z16::z17::z18::l2).map eY) 0 (m+19)=jf z0 z1 z2 z3 z4 z5 z6 z7 z8 z9 z10 z11 z12 z13 z14 z15 z16 z17 z18 (bV (l2.take m)):=vP hr0
 have i16:inZ z16:=hz z16 (by simp)
 have i17:inZ z17:=hz z17 (by simp)
 refine ak ac aa an ai (VL z0 z1 z2 z3 z4 z5 z6 z7 z8 z9 z10 z11 z12 z13 z14 z15 z16 z17 z18 (l2.map eY) m _) ?_
 refine aO (by rw [b6 (z:=((m+19:Nat):Int)-2) (by omega) (by omega),decide_eq_true (show (16:Int)≤((m+19:Nat):Int)-2 by omega)];rfl) ⟨uE (z:=16) (n:=m+19) rfl rfl (by decide) (by show 16<m+19;omega),?_,rfl⟩
 rw [or2 i16 i17,hsb]
 have a:=i16.1;have b:=i16.2;have c:=i17.1;have d:=i17.2
 rw [b6 (z:=(0*256+z16)*256+z17) (by omega) (by omega)]
 exact .refl _
theorem SQ:∀ro ys T K,ON ro ys T K→VCx prog be ro IY ys T K:=by
 intro ro ys T K hw
 unfold ON at hw
 split at hw
 ·split at hw
  ·rename_i k off n _ cs ho
   obtain ⟨⟨hro,h,hn,rfl⟩,hk⟩:=hw
   exact VCx.atRow bQ (le_of_ble_eq_true hro) ho h.ren (λf g=>rfl) (by simp [ap,TV.ren,aU]) (VCx.anyG (SP h (le_of_ble_eq_true hn))) hk
  ·exact hw.elim
 ·exact hw.elim
def FzRw (cs:List TV)(T':VT)(x y:TV):Prop:=∃T2,FzLe T' x y T2∧T'.objs.length≤T2.objs.length∧T2.objs[0]?=some (.row cs)
theorem FzRw.le {cs:List TV}{T':VT}{x y:TV}(h:TVle x y)(h0:T'.objs[0]?=some (.row cs)):FzRw cs T' x y:=⟨T',.le h,le_refl _,h0⟩
theorem sO {cs:List TV}{z16 z17:Int}{T':VT}{id:Nat}(h:T'.objs[id+1]?=some (.row [.val (.int .u8 z16),.val (.int .u8 z17)]))(h0:T'.objs[0]?=some (.row cs)):FzRw cs T' (.row 1 (id+1) 0 2) (.vec 1 [bT z16,bT z17] .none):=
 ⟨_,.row (jT (es:= [bT z16,bT z17]) h (by intro e he;simp only [mem_cons,not_mem_nil,or_false] at he;rcases he with rfl | rfl<;>rfl)),GK _ _,by simp only [VT.kill,getElem?_set];rw [if_neg (by omega)];exact h0⟩
section
variable {b:Bs}{cs:List TV}{pas:Int}
theorem mJ {s:Int}{d:Bs}{dz:TV}{T':VT}(h:lS b=.inl (s,d))(hd:FzRw cs T' dz (.vec 1 d .none)):FzRw cs T' (.tup [.val (.int .i64 0),.val (.int .i64 0),.agg [.val (.int .i64 1),.val (.int .i64 s),dz]]) (uB b):=by
 obtain ⟨T2,h1,h2⟩:=hd
 unfold uB K6
 rw [h]
 exact ⟨T2,.tup (.le (.le (.cons (.agg (.le (.le (.cons h1 .nil)))) .nil))),h2⟩
theorem Ek {n k:Int}{T':VT}(h:lS b=.inr (n,k))(h0:T'.objs[0]?=some (.row cs)):FzRw cs T' (.tup [.val (.int .i64 n),.val (.int .i64 k),.agg [.val (.int .i64 0),.val (.int .i64 0),.val (.slice none 0 0)]]) (uB b):=by
 unfold uB K6
 rw [h]
 exact .le (.tup ⟨.refl _,.refl _,.agg ⟨.refl _,.refl _,.nil 1,trivial⟩,trivial⟩) h0
theorem mK {c s:Int}{d:Bs}{dz:TV}{T':VT}(h:fh b pas=.inl (c,s,d))(hd:FzRw cs T' dz (.vec 1 d .none)):FzRw cs T' (.tup [.agg [.val (.int .i64 0),.val (.int .i64 0),.val (.int .i64 0),.val (.int .u32 0),pw,pw,.val (.int .i64 0),pw,.val (.int .u32 0),.val (.int .i64 0),.val (.bool false),pw,.val (.int .i64 0),.val (.int .i64 0),pw],.agg [.val (.int .i64 c),.val (.int .i64 s),dz]]) (y7 b pas):=by
 obtain ⟨T2,h1,h2⟩:=hd
 unfold y7 PZ
 rw [h]
 exact ⟨T2,.tup (.cons (.le Zo) (.cons (.agg (.le (.le (.cons h1 .nil)))) .nil)),h2⟩
theorem pA {m:MsgS}{l:List TV}{T':VT}(h:fh b pas=.inr m)(hm:TVleL l m.cells)(h0:T'.objs[0]?=some (.row cs)):FzRw cs T' (.tup [.agg l,.agg [.val (.int .i64 0),.val (.int .i64 0),pw]]) (y7 b pas):=by
 unfold y7 PZ
 rw [h]
 exact .le (.tup ⟨.agg hm,.agg ⟨.refl _,.refl _,.nil 1,trivial⟩,trivial⟩) h0
end
set_option maxHeartbeats 1000000 in
theorem VV {cs:List TV}{n:Nat}(hr:RwOk cs 0 n)(hn:19≤n):VCx prog be 0 Bq [.row 1 0 0 n] ⟨[.row cs],[]⟩ λx T'=>x=uB (aC cs 0 n)∧T'=⟨[.row cs],[]⟩:=by
 have hb:=hr.is
 refine VCx.fzRow hr.ren (GE hb) ?_
 obtain ⟨m,rfl⟩:∃m,n=m+19:=⟨n-19,by omega⟩
 have hr0:=hr
 obtain ⟨h1,h2,l,rfl,hz⟩:=hr
 rw [length_map] at h1 h2
 obtain ⟨z0,z1,z2,z3,z4,z5,z6,z7,z8,z9,z10,z11,z12,z13,z14,z15,z16,z17,z18,l2,rfl⟩:=zb (l:=l) (by omega)
 have hsb:aC ((z0::z1::z2::z3::z4::z5::z6::z7::z8::z9::z10::z11::z12::z13::z14::z15::z16::z17::z18::l2).map eY) 0 (m+19)=jf z0 z1 z2 z3 z4 z5 z6 z7 z8 z9 z10 z11 z12 z13 z14 z15 z16 z17 z18 (bV (l2.take m)):=vP hr0
 have hq:y9 z0 z1 z2 z3 z4 z5 z6 z7 z8 z9 z10 z11 z12 z13 z14 z15 z16 z17 z18 (l2.map eY)=(z0::z1::z2::z3::z4::z5::z6::z7::z8::z9::z10::z11::z12::z13::z14::z15::z16::z17::z18::l2).map eY:=rfl
 have i18:inZ z18:=hz z18 (by simp)
 rw [hsb] at hb
 have hl:¬(jf z0 z1 z2 z3 z4 z5 z6 z7 z8 z9 z10 z11 z12 z13 z14 z15 z16 z17 z18 (bV (l2.take m))).length<19:=by simp [jf]
 have hP:=sN hl
 have hN:=SE (hb.drop 16)
 have hsz:nt (jf z0 z1 z2 z3 z4 z5 z6 z7 z8 z9 z10 z11 z12 z13 z14 z15 z16 z17 z18 (bV (l2.take m)))= [bT z16,bT z17]:=rfl
 have hkd:Ef (jf z0 z1 z2 z3 z4 z5 z6 z7 z8 z9 z10 z11 z12 z13 z14 z15 z16 z17 z18 (bV (l2.take m)))= [bT z18]:=rfl
 have hk:nX (jf z0 z1 z2 z3 z4 z5 z6 z7 z8 z9 z10 z11 z12 z13 z14 z15 z16 z17 z18 (bV (l2.take m)))=z18:=rfl
 change 0≤io (jf z0 z1 z2 z3 z4 z5 z6 z7 z8 z9 z10 z11 z12 z13 z14 z15 z16 z17 z18 (bV (l2.take m)))∧io (jf z0 z1 z2 z3 z4 z5 z6 z7 z8 z9 z10 z11 z12 z13 z14 z15 z16 z17 z18 (bV (l2.take m)))<65536 at hN
 rw [hsz,hkd,hk] at hP
 have hwk:wrap i64 z18=z18:=i18.wrap
 refine ak ac aa (aL λp hp=>by obtain rfl:=mem_singleton.1 hp;exact SQ) ai (VM z0 z1 z2 z3 z4 z5 z6 z7 z8 z9 z10 z11 z12 z13 z14 z15 z16 z17 z18 (sK z18) (Lc z18) (l2.map eY) m _) ?_
 rw [hq,hsb,hwk]
 generalize io (jf z0 z1 z2 z3 z4 z5 z6 z7 z8 z9 z10 z11 z12 z13 z14 z15 z16 z17 z18 (bV (l2.take m)))=n at hP hN
 refine ⟨⟨rfl,hr0,rfl,rfl⟩,py (z:=18) (n:=m+19) rfl rfl (by decide) (by omega),⟨rfl,trivial⟩,?_⟩
 change _root_.cond _ _ _
 have hall:=Br [z0,z1,z2,z3,z4,z5,z6,z7,z8,z9,z10,z11,z12,z13,z14,z15]
 refine aq (λc=> ?_) (λc=> ?_)
 ·have c2:(!ia (jf z0 z1 z2 z3 z4 z5 z6 z7 z8 z9 z10 z11 z12 z13 z14 z15 z16 z17 z18 (bV (l2.take m))))=true:=Eq.trans (congrArg Bool.not hall).symm c
  have c3:ia (jf z0 z1 z2 z3 z4 z5 z6 z7 z8 z9 z10 z11 z12 z13 z14 z15 z16 z17 z18 (bV (l2.take m)))=false:=by simpa using c2
  exact mJ (by rw [hP,c3];rfl) (.le (.nil 1) rfl)
 have c2:(!ia (jf z0 z1 z2 z3 z4 z5 z6 z7 z8 z9 z10 z11 z12 z13 z14 z15 z16 z17 z18 (bV (l2.take m))))=false:=Eq.trans (congrArg Bool.not hall).symm c
 have c3:ia (jf z0 z1 z2 z3 z4 z5 z6 z7 z8 z9 z10 z11 z12 z13 z14 z15 z16 z17 z18 (bV (l2.take m)))=true:=by simpa using c2
 rw [c3,cond_true] at hP
 refine aq (λd1=> ?_) (λd1=> ?_)
 ·exact mJ (by rw [hP,if_pos (.inl (of_decide_eq_true d1))]) (sO (id:=1) rfl rfl)
 replace d1:=of_decide_eq_false d1
 refine aq (λd2=> ?_) (λd2=> ?_)
 ·exact mJ (by rw [hP,if_pos (.inr (of_decide_eq_true d2))]) (sO (id:=1) rfl rfl)
 replace d2:=of_decide_eq_false d2
 rw [if_neg (show ¬(n<19∨n>4096) by omega)] at hP
 refine aq (λd3=> ?_) (λd3=> ?_)
 ·exact ⟨py (z:=18) (n:=m+19) rfl rfl (by decide) (by omega),mJ (by rw [hP,if_pos (.inl (of_decide_eq_true d3))];rfl) (.le (.vec 1 _ _) rfl)⟩
 replace d3:=of_decide_eq_false d3
 refine aq (λd4=> ?_) (λd4=> ?_)
 ·exact ⟨py (z:=18) (n:=m+19) rfl rfl (by decide) (by omega),mJ (by rw [hP,if_pos (.inr (of_decide_eq_true d4))];rfl) (.le (.vec 1 _ _) rfl)⟩
 replace d4:=of_decide_eq_false d4
 rw [if_neg (show ¬(z18<1∨z18>4) by omega)] at hP
 refine ⟨IT (by omega) (by omega),?_⟩
 refine aq (λd5=> ?_) (λd5=> ?_)
 ·exact mJ (by rw [hP,if_pos (.inl (of_decide_eq_true d5))]) (sO (id:=1) rfl rfl)
 replace d5:=of_decide_eq_false d5
 refine aq (λd6=> ?_) (λd6=> ?_)
 ·replace d6:=dM d6
  refine aq (λd7=> ?_) (λd7=> ?_)
  ·replace d7:=of_decide_eq_true d7
   exact mJ (by rw [hP,if_pos (.inr ⟨d6,by omega⟩)]) (sO (id:=1) rfl rfl)
  ·replace d7:=of_decide_eq_false d7
   exact Ek (by rw [hP,if_neg (by omega)]) rfl
 ·replace d6:=dq d6
  exact Ek (by rw [hP,if_neg (by omega)]) rfl
theorem Lk:∀ro ys T K,Ei ro ys T K→VCx prog be ro Bq ys T K:=by
 intro ro ys T K hw
 unfold Ei at hw
 split at hw
 ·split at hw
  ·rename_i k off n _ cs ho
   obtain ⟨⟨hro,h,hn,rfl⟩,hk⟩:=hw
   refine VCx.atRow bQ (le_of_ble_eq_true hro) ho h.ren (GE h.is) (by simp [ap,TV.ren,aU]) (VV h (le_of_ble_eq_true hn)) ?_
   cases hh:dg (aC cs 0 n)<;>rw [hh] at hk
   ·rw [K8 hh];exact hk
   ·rw [K7 hh];exact hk
  ·exact hw.elim
 ·exact hw.elim
theorem VW:∀ro ys T K,Le ro ys T K→VCx prog be ro Gi ys T K:=by
 intro ro ys T K hw
 unfold Le at hw
 split at hw
 ·split at hw
  ·rename_i k off n pas _ cs ho
   obtain ⟨⟨hro,h⟩,hk⟩:=hw
   refine VCx.atRow bQ (le_of_ble_eq_true hro) ho h.ren (GG pas h.is) (by simp [ap,TV.ren,aU]) (VCx.anyG (VS h pas)) ?_
   cases hh:ib (aC cs off n) pas<;>rw [hh] at hk
   ·rw [Lb h.is hh];exact hk
   ·rw [La h.is hh];exact hk
  ·exact hw.elim
 ·exact hw.elim
theorem VX:∀ro ys T K,Lf ro ys T K→VCx prog be ro GD ys T K:=by
 intro ro ys T K hw
 unfold Lf at hw
 split at hw
 ·split at hw
  ·rename_i k off n _ cs ho
   obtain ⟨⟨hro,h⟩,hk⟩:=hw
   refine VCx.atRow bQ (le_of_ble_eq_true hro) ho h.ren (GC h.is) (by simp [ap,TV.ren,aU]) (VCx.anyG (VQ h)) ?_
   cases hh:iC (aC cs off n)<;>rw [hh] at hk
   ·rw [VE hh];exact hk
   ·rw [VD hh];exact hk
  ·exact hw.elim
 ·exact hw.elim
theorem VY:∀ro ys T K,Lg ro ys T K→VCx prog be ro DM ys T K:=by
 intro ro ys T K hw
 unfold Lg at hw
 split at hw
 ·split at hw
  ·rename_i k off n _ cs ho
   obtain ⟨⟨hro,h,rfl,hn⟩,hk⟩:=hw
   refine VCx.atRow bQ (le_of_ble_eq_true hro) ho h.ren (GH h.is) (by simp [ap,TV.ren,aU]) (VCx.anyG (VU h (le_of_ble_eq_true hn))) ?_
   rw [yZ]
   cases hh:jB (aC cs 19 n)<;>rw [hh] at hk<;>exact hk
  ·exact hw.elim
 ·exact hw.elim
theorem vQ {b:Bs}(hl:¬b.length<19)(h:dg b=true):sK (ew b)≤bI b∧19≤bI b∧bI b≤4096:=by
 have hP:=sN hl
 unfold dg at h
 unfold ew bI
 rw [hP] at h ⊢
 cases h1:ia b<;>rw [h1] at h<;>simp only [cond_true,cond_false] at h ⊢
 ·cases h
 split at h
 ·rename_i p hp
  split at hp
  ·cases hp
  rename_i c1
  split at hp
  ·cases hp
  rename_i c2
  split at hp
  ·cases hp
  rename_i c3
  injection hp with hp
  rw [←hp]
  simp only
  omega
 ·cases h
theorem GM:bf prog be (aF [(Bq,Ei),(Gi,Le),(GD,Lf),(DM,Lg)]):=aL λp hp=>by
 rcases mem_cons.1 hp with rfl | hp;exact Lk
 rcases mem_cons.1 hp with rfl | hp;exact VW
 rcases mem_cons.1 hp with rfl | hp;exact VX
 obtain rfl:=mem_singleton.1 hp;exact VY
set_option maxHeartbeats 1000000 in
theorem VZ {cs:List TV}{n:Nat}(hr:RwOk cs 0 n)(hn:19≤n)(pas:Int):VCx prog be 0 GJ [.row 1 0 0 n,.val (.int .i64 pas)] ⟨[.row cs],[]⟩ λx T'=>x=y7 (aC cs 0 n) pas∧T'=⟨[.row cs],[]⟩:=by
 have hb:=hr.is
 refine VCx.fzRow hr.ren (GI pas hb) ?_
 obtain ⟨m,rfl⟩:∃m,n=m+19:=⟨n-19,by omega⟩
 have hr0:=hr
 obtain ⟨h1,h2,l,rfl,hz⟩:=hr
 rw [length_map] at h1 h2
 obtain ⟨z0,z1,z2,z3,z4,z5,z6,z7,z8,z9,z10,z11,z12,z13,z14,z15,z16,z17,z18,l2,rfl⟩:=zb (l:=l) (by omega)
 have hsb:aC ((z0::z1::z2::z3::z4::z5::z6::z7::z8::z9::z10::z11::z12::z13::z14::z15::z16::z17::z18::l2).map eY) 0 (m+19)=jf z0 z1 z2 z3 z4 z5 z6 z7 z8 z9 z10 z11 z12 z13 z14 z15 z16 z17 z18 (bV (l2.take m)):=vP hr0
 have hrw:RwOk ((z0::z1::z2::z3::z4::z5::z6::z7::z8::z9::z10::z11::z12::z13::z14::z15::z16::z17::z18::l2).map eY) 19 m:=hr0.sub (by simp only [length_map,length_cons] at h1 ⊢;omega)
 have hsw:aC ((z0::z1::z2::z3::z4::z5::z6::z7::z8::z9::z10::z11::z12::z13::z14::z15::z16::z17::z18::l2).map eY) 19 m=bV (l2.take m):=vP hrw
 have hwl:(bV (l2.take m)).length=m:=by rw [←hsw];exact iN _ _ _
 have hq:ip (.val (.int .u8 z0)) (.val (.int .u8 z1)) (.val (.int .u8 z2)) (.val (.int .u8 z3)) (.val (.int .u8 z4)) (.val (.int .u8 z5)) (.val (.int .u8 z6)) (.val (.int .u8 z7)) (.val (.int .u8 z8)) (.val (.int .u8 z9)) (.val (.int .u8 z10)) (.val (.int .u8 z11)) (.val (.int .u8 z12)) (.val (.int .u8 z13)) (.val (.int .u8 z14)) (.val (.int .u8 z15)) (.val (.int .u8 z16)) (.val (.int .u8 z17)) (.val (.int .u8 z18)) (l2.map eY)=(z0::z1::z2::z3::z4::z5::z6::z7::z8::z9::z10::z11::z12::z13::z14::z15::z16::z17::z18::l2).map eY:=rfl
 rw [hsb] at hb ⊢
 have hlen:¬(jf z0 z1 z2 z3 z4 z5 z6 z7 z8 z9 z10 z11 z12 z13 z14 z15 z16 z17 z18 (bV (l2.take m))).length<19:=by simp [jf]
 have hln:(jf z0 z1 z2 z3 z4 z5 z6 z7 z8 z9 z10 z11 z12 z13 z14 z15 z16 z17 z18 (bV (l2.take m))).length=m+19:=by simp only [jf,length_cons,hwl]
 have hsz:nt (jf z0 z1 z2 z3 z4 z5 z6 z7 z8 z9 z10 z11 z12 z13 z14 z15 z16 z17 z18 (bV (l2.take m)))= [bT z16,bT z17]:=rfl
 have hdr:(jf z0 z1 z2 z3 z4 z5 z6 z7 z8 z9 z10 z11 z12 z13 z14 z15 z16 z17 z18 (bV (l2.take m))).drop 19=bV (l2.take m):=rfl
 have hPl:=λc=>OM (b:=jf z0 z1 z2 z3 z4 z5 z6 z7 z8 z9 z10 z11 z12 z13 z14 z15 z16 z17 z18 (bV (l2.take m))) (pas:=pas) c hlen
 have hbad:=λc=>SF (b:=jf z0 z1 z2 z3 z4 z5 z6 z7 z8 z9 z10 z11 z12 z13 z14 z15 z16 z17 z18 (bV (l2.take m))) (pas:=pas) c
 have hle:=λc=>vQ (b:=jf z0 z1 z2 z3 z4 z5 z6 z7 z8 z9 z10 z11 z12 z13 z14 z15 z16 z17 z18 (bV (l2.take m))) hlen c
 rw [hsz,hdr,hln] at hPl
 by_cases hm0:m=0
 ·subst hm0
  refine ak ac aa GM ai (SN (.val (.int .u8 z0)) (.val (.int .u8 z1)) (.val (.int .u8 z2)) (.val (.int .u8 z3)) (.val (.int .u8 z4)) (.val (.int .u8 z5)) (.val (.int .u8 z6)) (.val (.int .u8 z7)) (.val (.int .u8 z8)) (.val (.int .u8 z9)) (.val (.int .u8 z10)) (.val (.int .u8 z11)) (.val (.int .u8 z12)) (.val (.int .u8 z13)) (.val (.int .u8 z14)) (.val (.int .u8 z15)) (.val (.int .u8 z16)) (.val (.int .u8 z17)) (.val (.int .u8 z18)) (l2.map eY) pas _) ?_
  refine ⟨⟨rfl,hr0,rfl,rfl⟩,?_⟩
  rw [hq,hsb]
  refine aq (λc1=> ?_) (λc1=> ?_)
  rotate_left
  ·exact mK (hbad c1) (.le (.refl _) rfl)
  have hP:=hPl c1
  obtain ⟨hk,_,_⟩:=hle c1
  refine aq (λc2=> ?_) (λc2=> ?_)
  ·exact mK (hP.trans (if_pos (fp c2))) (sO (id:=4) rfl rfl)
  have hN:=fq c2
  rw [if_neg (λc=>c hN)] at hP
  rw [hN] at hk
  refine aq (λc3=> ?_) (λc3=> ?_)
  ·rw [dM c3] at hk;exact absurd hk (by decide)
  rw [if_neg (dq c3)] at hP
  refine aq (λc5=> ?_) (λc5=> ?_)
  ·rw [dM c5] at hk;exact absurd hk (by decide)
  rw [if_neg (dq c5)] at hP
  refine aq (λc6=> ?_) (λc6=> ?_)
  ·rw [dM c6] at hk;exact absurd hk (by decide)
  rw [if_neg (dq c6)] at hP
  exact pA hP ⟨.refl _,.refl _,.refl _,.refl _,.nil 2,.nil 2,.refl _,.nil 1,.refl _,.refl _,.refl _,.nil 2,.refl _,.refl _,.nil 1,trivial⟩ rfl
 refine ak ac aa GM ai (VN (.val (.int .u8 z0)) (.val (.int .u8 z1)) (.val (.int .u8 z2)) (.val (.int .u8 z3)) (.val (.int .u8 z4)) (.val (.int .u8 z5)) (.val (.int .u8 z6)) (.val (.int .u8 z7)) (.val (.int .u8 z8)) (.val (.int .u8 z9)) (.val (.int .u8 z10)) (.val (.int .u8 z11)) (.val (.int .u8 z12)) (.val (.int .u8 z13)) (.val (.int .u8 z14)) (.val (.int .u8 z15)) (.val (.int .u8 z16)) (.val (.int .u8 z17)) (.val (.int .u8 z18)) (l2.map eY) m pas _) ?_
 refine ⟨⟨rfl,hr0,rfl,rfl⟩,?_⟩
 rw [hq,hsb,hsw]
 refine aq (λc1=> ?_) (λc1=> ?_)
 rotate_left
 ·exact mK (hbad c1) (.le (.refl _) rfl)
 have hP:=hPl c1
 obtain ⟨hkl,_,_⟩:=hle c1
 refine aq (λc2=> ?_) (λc2=> ?_)
 ·exact mK (hP.trans (if_pos (fp c2))) (sO (id:=4) rfl rfl)
 have hN:=fq c2
 rw [if_neg (λc=>c hN)] at hP
 refine ⟨uE (z:=19) (n:=m+19) rfl rfl (by decide) (by show 19<m+19;omega),?_⟩
 refine aq (λc3=> ?_) (λc3=> ?_)
 ·rw [if_pos (dM c3)] at hP
  refine ⟨⟨rfl,hrw⟩,aq (λc4=> ?_) (λc4=> ?_)⟩
  ·exact pA (hP.trans (by rw [show ib (bV (l2.take m)) pas=true from c4];rfl)) ⟨.refl _,.refl _,.refl _,.refl _,.refl _,.nil 2,.refl _,.nil 1,.refl _,.refl _,.refl _,.nil 2,.refl _,.refl _,.nil 1,trivial⟩ rfl
  ·exact mK (hP.trans (by rw [show ib (bV (l2.take m)) pas=false from c4];rfl)) (.le (.refl _) rfl)
 rw [if_neg (dq c3)] at hP
 refine aq (λc5=> ?_) (λc5=> ?_)
 ·rw [if_pos (dM c5)] at hP
  refine ⟨⟨rfl,hrw⟩,aq (λc4=> ?_) (λc4=> ?_)⟩
  ·exact pA (hP.trans (by rw [show iC (bV (l2.take m))=true from c4];rfl)) ⟨.refl _,.refl _,.refl _,.refl _,.nil 2,.refl _,.refl _,.refl _,.refl _,.refl _,.refl _,.refl _,.refl _,.refl _,.nil 1,trivial⟩ rfl
  ·exact mK (hP.trans (by rw [show iC (bV (l2.take m))=false from c4];rfl)) (.le (.refl _) rfl)
 rw [if_neg (dq c5)] at hP
 refine aq (λc6=> ?_) (λc6=> ?_)
 ·rw [if_pos (dM c6)] at hP
  rw [dM c6,hN] at hkl
  have hm2:2≤m:=by
   have:sK 3=21:=by decide
   rw [this] at hkl;omega
  refine ⟨⟨rfl,hrw,rfl,ble_eq_true_of_le hm2⟩,aq (λc4=> ?_) (λc4=> ?_)⟩
  ·exact pA (hP.trans (by rw [show jB (bV (l2.take m))=true from c4];rfl)) ⟨.refl _,.refl _,.refl _,.refl _,.nil 2,.nil 2,.refl _,.nil 1,.refl _,.refl _,.refl _,.nil 2,.refl _,.refl _,.refl _,trivial⟩ rfl
  ·exact mK (hP.trans (by rw [show jB (bV (l2.take m))=false from c4];rfl)) (sO (id:=4) rfl rfl)
 rw [if_neg (dq c6)] at hP
 exact pA hP ⟨.refl _,.refl _,.refl _,.refl _,.nil 2,.nil 2,.refl _,.nil 1,.refl _,.refl _,.refl _,.nil 2,.refl _,.refl _,.nil 1,trivial⟩ rfl
section
variable {P:Program}{G:aV}
theorem zc {ro:Nat}{T:VT}{t e tn:TypeId}{s x:Operand}{l:List (Nat × TV)}{inf:TypeInfo}{z:Value}{kn kq:IntKind}{m:Int}(ht:P.underlying t=some (.slice e))(htn:P.underlying tn=some (.int kn))(hi:P.info? e=some inf)(hz:inf.zero=some z)(hzs:z.cells.size=inf.size)(h0s:0<inf.size)
  (hz1:z.cells.toList.all oneCell'=true) (hs:aP G l s=.val (.slice none 0 0)) (hx:aP G l x=.val (.int kq m)) (h0:0<m) (hb:m.toNat*(inf.bytes+1)≤140737488355328):
  bb P G ro T (.call ⟨.builtin .append,#[s,x],#[t,tn]⟩) l (.row inf.size T.objs.length 0 m.toNat) (T.newRow ((zeroCells z.cells m.toNat).toList.map .val)):=by
 refine .mk ?_
 have h1:bu P (.call ⟨.builtin .append,#[s,x],#[t,tn]⟩) (aP G l)=none:=by simp [bu,dZ]
 have h2:br P T (.call ⟨.builtin .append,#[s,x],#[t,tn]⟩) (aP G l)=none:=by simp [br,dJ,jl]
 have hsl:fY (P.underlying tn)=false:=by rw [htn];rfl
 have h3:xY P T t tn (.val (.slice none 0 0)) (.val (.int kq m))=some (.row inf.size T.objs.length 0 m.toNat,T.newRow ((zeroCells z.cells m.toNat).toList.map .val)):=by
  unfold xY
  simp only [ht,htn,hi,hz,hzs,decide_eq_true h0,decide_eq_true h0s,decide_true,hz1,ble_eq_true_of_le hb,Bool.and_self,cond_true]
 simp only [gB,h1,h2,lw,hs,hx,hsl,h3,cond_false]
theorem lX {ro:Nat}{T:VT}{t e tx:TypeId}{s x:Operand}{l:List (Nat × TV)}{inf:TypeInfo}{z:Value}{q0:List TV}{qs:List (List TV)}{id n:Nat}{cs:List TV}(ht:P.underlying t=some (.slice e))(hi:P.info? e=some inf)(hz:inf.zero=some z)(hzs:z.cells.size=inf.size)(hz1:z.cells.toList.all oneCell'=true)
  (hsl:fY (P.underlying tx)=true) (hs:aP G l s=.row inf.size id 0 n) (ho:T.objs[id]?=some (.row cs)) (hro:ro≤id) (hn:n*inf.size≤cs.length) (hr:bK T inf.size (aP G l x)=some (q0::qs)) (hb:(n+(q0::qs).length)*(inf.bytes+1)≤140737488355328):
  bb P G ro T (.call ⟨.builtin .append,#[s,x],#[t,tx]⟩) l (.row inf.size T.objs.length 0 (n+(q0::qs).length)) ((T.kill id).newRow (cs.take (n*inf.size)++(q0::qs).flatten)):=by
 refine .mk ?_
 have h1:bu P (.call ⟨.builtin .append,#[s,x],#[t,tx]⟩) (aP G l)=none:=by simp [bu,dZ]
 have h2:br P T (.call ⟨.builtin .append,#[s,x],#[t,tx]⟩) (aP G l)=none:=by simp [br,dJ,jl]
 have h4:lv P T t tx (.row inf.size id 0 n) (aP G l x)=none:=by simp [lv,ht]
 have h5:sa P ro T t tx (.row inf.size id 0 n) (aP G l x)=none:=rfl
 have h3:lu P ro T t tx (.row inf.size id 0 n) (aP G l x)=some (.row inf.size T.objs.length 0 (n+(q0::qs).length),(T.kill id).newRow (cs.take (n*inf.size)++(q0::qs).flatten)):=by
  unfold lu
  simp only [ht,hi,hz,hr,hzs,decide_true,hz1,hsl,Bool.and_self,cond_true,beq_refl,ho,ble_eq_true_of_le hro,ble_eq_true_of_le hn,ble_eq_true_of_le hb]
 simp only [gB,h1,h2,lw,hs,hsl,h4,h5,h3,cond_true]
end
section
variable {P:Program}{G:aV}
def Gh.pickG (g:Gh)(is ks:List Nat):Gh:={g with obj:=λj=>(is[j]?).bind g.obj,tail:=λj=>(ks[j]?).bind g.tail}
theorem Bu (g:Gh)(is ks:List Nat):tz g (g.pickG is ks) (aU is) (aU ks) where
 obj i i' b h1 h2:=by simp [Gh.pickG,ki h1,h2]
 tail k k' x h1 h2:=by simp [Gh.pickG,ki h1,h2]
 st _ _ h:=h
theorem RW.pickG {g:Gh}{T:VT}{w:World}(r:RW g T w){is ks:List Nat}(hi:is.Nodup)(hk:ks.Nodup)(hkl:∀k∈ks,k<T.tails.length):
  RW (g.pickG is ks) (T.give is ks) w:=by
 have k:=Bu g is ks
 have hobj:∀(j:Nat) o,(T.give is ks).objs[j]?=some o→o.live=true→∃i o0,is[j]?=some i∧T.objs[i]?=some o0∧o0.live=true∧o=o0.ren (aU is) (aU ks):=by
  intro j o h hl
  simp only [VT.give,getElem?_map,Option.map_eq_some_iff] at h
  obtain ⟨i,h1,rfl⟩:=h
  rw [VO.ren_live] at hl
  cases h2:T.objs[i]? with
  |none=>rw [h2] at hl;cases hl
  |some o0=>rw [h2] at hl;exact ⟨i,o0,h1,h2,hl,by simp⟩
 have hsub:∀(j:Nat) x,(g.pickG is ks).tail j=some x→∃k0,ks[j]?=some k0∧g.tail k0=some x:=λj x h=>by simpa [Gh.pickG,Option.bind_eq_some_iff] using h
 refine ⟨?_,?_,?_,r.st,r.fr,?_,?_,?_,?_,?_,?_,?_⟩
 ·intro j o h hl
  obtain ⟨i,o0,h1,h2,h3,rfl⟩:=hobj j o h hl
  obtain ⟨b,h4,h5,h6,h7⟩:=r.obj i o0 h2 h3
  exact ⟨b,by simp [Gh.pickG,h1,h4],h5.ren k,h6,h7⟩
 ·intro i j oi oj b h1 l1 h2 l2 b1 b2
  obtain ⟨i0,o1,a1,a2,a3,rfl⟩:=hobj i oi h1 l1
  obtain ⟨j0,o2,c1,c2,c3,rfl⟩:=hobj j oj h2 l2
  simp only [Gh.pickG,a1,c1,Option.bind_some] at b1 b2
  have:=r.inj i0 j0 o1 o2 b a2 a3 c2 c3 b1 b2
  subst this
  exact mi hi a1 c1
 ·intro id hid
  simp only [VT.give,length_map] at hid
  simp [Gh.pickG,List.getElem?_eq_none hid]
 ·intro j p h
  simp only [VT.give,getElem?_map,Option.map_eq_some_iff] at h
  obtain ⟨k0,h1,rfl⟩:=h
  have hlt:=hkl k0 (List.mem_of_getElem? h1)
  obtain ⟨x,h2,h3,h4,h5⟩:=r.tl k0 _ (getElem?_eq_getElem hlt)
  refine ⟨x,by simp [Gh.pickG,h1,h2],?_,?_,h5⟩
  ·rw [getElem?_eq_getElem hlt];exact h3
  ·rw [getElem?_eq_getElem hlt];exact h4
 ·intro j hj
  simp only [VT.give,length_map] at hj
  simp [Gh.pickG,List.getElem?_eq_none hj]
 ·intro i j x y b h1 h2 i1 i2
  obtain ⟨i0,a1,a2⟩:=hsub i x h1
  obtain ⟨j0,c1,c2⟩:=hsub j y h2
  have:=r.tinj i0 j0 x y b a2 c2 i1 i2
  subst this
  exact mi hk a1 c1
 ·intro i oi b j x h1 l1 b1 hx hin
  obtain ⟨i0,o1,a1,a2,a3,rfl⟩:=hobj i oi h1 l1
  obtain ⟨j0,c1,c2⟩:=hsub j x hx
  simp only [Gh.pickG,a1,Option.bind_some] at b1
  exact r.tobj i0 o1 b j0 x a2 a3 b1 c2 hin
 ·intro j x hx
  obtain ⟨j0,c1,c2⟩:=hsub j x hx
  exact r.own j0 x c2
 ·intro j x hx
  obtain ⟨j0,c1,c2⟩:=hsub j x hx
  exact r.own0 j0 x c2
 ·intro j x hx
  obtain ⟨j0,c1,c2⟩:=hsub j x hx
  exact r.tlo j0 x c2
theorem Evo.pickG {g0 g:Gh}{T0:VT}{w0 w:World}(r0:RW g0 T0 w0)(e:Evo g0 w0 g w){is ks:List Nat}(hp:∀j,j<T0.objs.length→is[j]?=some j)(hq:∀j,j<T0.tails.length→ks[j]?=some j)(hk:ks.Nodup):Evo g0 w0 (g.pickG is ks) w:=by
 refine ⟨e.os,e.tape,e.output,e.size,λid b hb=> ?_,e.st,e.fr,e.frb,e.frs,λk x hx=> ?_,λk x h1 h2=> ?_,e.csz⟩
 ·simp only [Gh.pickG,hp id (CJ r0 hb),Option.bind_some];exact e.obj id b hb
 ·simp only [Gh.pickG,hq k (qW r0 hx),Option.bind_some];exact e.tail k x hx
 ·simp only [Gh.pickG,Option.bind_eq_some_iff] at h2
  obtain ⟨k0,h3,h4⟩:=h2
  refine e.tnew k0 x ?_ h4
  by_cases hlt:k0<T0.tails.length
  ·have:=mi hk h3 (hq k0 hlt)
   subst this;exact h1
  ·exact r0.tout k0 (by omega)
end
section
variable {g:Gh}{w:World}
end
section
variable {P:Program}{G:aV}
end
section
variable {P:Program}{G:aV}
theorem VCx.pick {f:FuncId}{xs:List TV}{T:VT}{Q:TV→VT→Prop}(h:VCx P G 0 f xs T λx T'=>∃is ks:List Nat,(is.Nodup∧ks.Nodup∧(∀i∈is,i<T'.objs.length)∧(∀k∈ks,k<T'.tails.length)∧(∀j,j<T.objs.length→is[j]?=some j)∧(∀j,j<T.tails.length→ks[j]?=some j))∧Q (x.ren (aU is) (aU ks)) (T'.give is ks)):VCx P G 0 f xs T Q:=by
 intro g w us rw0 hG hx
 refine Calls.mono (h g w us rw0 hG hx) ?_
 rintro e w' ⟨v,x,g',T',he,⟨is,ks,⟨b1,b2,b3,b4,hp,hq0⟩,hq⟩,e',r',hv,hfx⟩
 refine ⟨v,_,g'.pickG is ks,T'.give is ks,he,hq,Evo.pickG rw0 e' hp hq0 b2,r'.pickG b1 b2 b4,hv.ren (Bu g' is ks),?_,λi hi=>absurd hi (not_lt_zero i),λi o b hi=>absurd hi (not_lt_zero i)⟩
 simp only [VT.give,length_map]
 rcases Nat.eq_zero_or_pos T.objs.length with h0 | h0
 ·omega
 ·have:=(List.getElem?_eq_some_iff.1 (hp (T.objs.length-1) (by omega))).1
  omega
end
abbrev lY:=38
abbrev uF:=63
def pB (n:Int)(y:TV)(T2:VT)(ro:Nat)(T:VT):Prop:=VCx prog ae ro uF [.val (.slice none 0 0),.val (.int .i64 n)] T λx T1=>x=y∧T1=T2
def zd (gy:TV)(gT:VT):aW:=λro ys T K=>match ys with
 |[.val (.slice none 0 0),.val (.int .i64 n)]=>pB n gy gT ro T∧K gy gT
 |_=>aJ 84 default ys
def V0 (y1 y2:TV)(T1 T2:VT):List TV→Option (TV × Option VT)
 |[.row _ 0 _ _,.vec _ (_::_) _]=>some (y1,some T1)
 |[.row _ (_+1) _ _,.vec _ (_::_) _]=>some (y2,some T2)
 |_=>none
def vR (y1 y2:TV)(T1 T2:VT):jq:=λo σ _=>match o.dst with
 |some d=>bif beq d 33 then V0 y1 y2 T1 T2 σ else none
 |none=>none
theorem P6 (n:Int)(k:Nat)(W:List TV)(T:VT)(Q:TV→VT→Prop):ar prog ae bt (aZ [(22,.row 1 0 0 k,some λT=>T.newRow W)]) 300 aN 0 uF [.val (.slice none 0 0),.val (.int .i64 n)] am Q=
 (bif decide (n<(0:Int))
 then False
 else (bif decide (wrap i64 (n-wrap i64 ((↑(0:Nat):Int)-(↑(0:Nat):Int)))>(0:Int))
 then (bb prog (λ_=>.none) 0 am (.call ⟨(.builtin .append),#[(.tmp 20),(.tmp 21)],#[22,3]⟩) [(20,aE),(21,(ah (wrap i64 (n-wrap i64 ((↑(0:Nat):Int)-(↑(0:Nat):Int))))))] (.row 1 0 0 k) (gn W)∧
 Q ka (gn W))
 else Q aE am)):=by kernel_rfl
theorem SR (q r:List TV)(a b:Bs)(k:Nat)(W:List TV)(tok tok1 tok2:Tok)(y2:TV)(T0 T1 T2:VT)(Q:TV→VT→Prop):ar prog ae (aF [(uF,zd ka T0)]) (vR (gm k) y2 T1 T2) 300 aN 0 lY [.vec 1 [[.vec 1 (q::a) tok1],[.vec 1 (r::b) tok2]] tok] am Q=
 (bif decide (wrap i64 ((0:Int)+(↑(length (q::a)):Int))<(0:Int))
 then False
 else (bif decide (wrap i64 (wrap i64 ((0:Int)+(↑(length (q::a)):Int))+(↑(length (r::b)):Int))<(0:Int))
 then False
 else (pB (wrap i64 (wrap i64 ((0:Int)+(↑(length (q::a)):Int))+(↑(length (r::b)):Int))) ka (T0) 0 am∧
 (bb prog (λ_=>.none) 0 (T0) (.call ⟨(.builtin .append),#[(.tmp 31),(.tmp 32)],#[22,22]⟩) [(31,ka),(32,(.vec 1 ([(q)]++a) tok1))] (gm k) (T1)∧
 (bb prog (λ_=>.none) 0 (T1) (.call ⟨(.builtin .append),#[(.tmp 31),(.tmp 32)],#[22,22]⟩) [(31,(gm k)),(32,(.vec 1 ([(r)]++b) tok2))] (y2) (T2)∧
 Q (y2) (T2)))))):=by kernel_rfl
theorem V1 (q:List TV)(a:Bs)(k:Nat)(W:List TV)(tok tok1 tok2:Tok)(T1:VT)(Q:TV→VT→Prop):ar prog ae (aF [(uF,zd ka (cu (.row W)))]) (vR (gm k) .dead T1 T1) 300 aN 0 lY [.vec 1 [[.vec 1 (q::a) tok1],[.vec 1 [] tok2]] tok] am Q=
 (bif decide (wrap i64 ((0:Int)+(↑(length (q::a)):Int))<(0:Int))
 then False
 else (bif decide (wrap i64 (wrap i64 ((0:Int)+(↑(length (q::a)):Int))+(↑(0:Nat):Int))<(0:Int))
 then False
 else (pB (wrap i64 (wrap i64 ((0:Int)+(↑(length (q::a)):Int))+(↑(0:Nat):Int))) ka (gn W) 0 am∧
 (bb prog (λ_=>.none) 0 (gn W) (.call ⟨(.builtin .append),#[(.tmp 31),(.tmp 32)],#[22,22]⟩) [(31,ka),(32,(.vec 1 ([(q)]++a) tok1))] (gm k) (T1)∧
 Q (gm k) (T1))))):=by kernel_rfl
theorem V2 (q:List TV)(a:Bs)(k:Nat)(W:List TV)(tok tok1 tok2:Tok)(T1:VT)(Q:TV→VT→Prop):ar prog ae (aF [(uF,zd ka (cu (.row W)))]) (vR (gm k) .dead T1 T1) 300 aN 0 lY [.vec 1 [[.vec 1 [] tok1],[.vec 1 (q::a) tok2]] tok] am Q=
 (bif decide (wrap i64 (wrap i64 ((0:Int)+(↑(0:Nat):Int))+(↑(length (q::a)):Int))<(0:Int))
 then False
 else (pB (wrap i64 (wrap i64 ((0:Int)+(↑(0:Nat):Int))+(↑(length (q::a)):Int))) ka (gn W) 0 am∧
 (bb prog (λ_=>.none) 0 (gn W) (.call ⟨(.builtin .append),#[(.tmp 31),(.tmp 32)],#[22,22]⟩) [(31,ka),(32,(.vec 1 ([(q)]++a) tok2))] (gm k) (T1)∧
 Q (gm k) (T1)))):=by kernel_rfl
theorem V3 (tok tok1 tok2:Tok)(Q:TV→VT→Prop):ar prog ae (aF [(uF,zd (.val (.slice none 0 0)) am)]) aT 300 aN 0 lY [.vec 1 [[.vec 1 [] tok1],[.vec 1 [] tok2]] tok] am Q=
 (pB 0 aE am 0 am∧
 Q aE am):=by kernel_rfl
def zR (n:Nat):List TV:=(zeroCells (Value.int .u8 0).cells n).toList.map .val
theorem V4 (n:Nat):(zR n).length=n:=by
 unfold zR
 rw [length_map,Array.length_toList,size_zeroCells]
 exact mul_one n
theorem V5 (f g:Nat→Option Nat)(n:Nat):ap f g (zR n)=zR n:=tw _ _ _
theorem V6 {n:Int}(h0:0<n)(h1:n≤64000000):VCx prog ae 0 uF [.val (.slice none 0 0),.val (.int .i64 n)] ⟨[],[]⟩ λx T1=>x=.row 1 0 0 0∧T1=⟨[.row (zR n.toNat)],[]⟩:=by
 obtain ⟨inf,i1,i2,i3,i4⟩:=cO
 refine ak ac aa an ai (P6 n n.toNat (zR n.toNat) ⟨[],[]⟩ _) ?_
 have e:wrap i64 (n-wrap i64 (((0:Nat):Int)-((0:Nat):Int)))=n:=by
  rw [show wrap i64 (((0:Nat):Int)-((0:Nat):Int))=0 from rfl,Int.sub_zero,b6 (by omega) (by omega)]
 refine aO (decide_eq_false (by omega)) (aS (decide_eq_true (by rw [e];exact h0)) ⟨?_,rfl,rfl⟩)
 rw [e]
 have h:=zc (P:=prog) (G:=ae) (ro:=0) (T:=⟨[],[]⟩) (t:=22) (tn:=3) (s:=.tmp 20) (x:=.tmp 21) (l:= [(20,.val (.slice none 0 0)),(21,.val (.int .i64 n))]) (inf:=inf) (m:=n) underlying22 Tryz.underlying3 i1 i4 (by rw [i2];rfl) (by rw [i2];decide) rfl rfl rfl h0 (by rw [i3];omega)
 rw [i2] at h
 exact h
theorem ze {n:Int}(h0:0<n)(h1:n≤64000000)(ro:Nat)(T:VT):pB n (.row 1 T.objs.length 0 0) {T with objs:=T.objs++ [.row (zR n.toNat)]} ro T:=by
 unfold pB
 refine (VCx.lift (T:=T) [] [] au nodup_nil nodup_nil (by simp) (by simp) (by simp) rfl (by rw [VT.give_nil];exact V6 h0 h1) (λ_ _ _=>⟨zero_le _,zero_le _⟩)).mono ?_
 rintro z T' ⟨x,T'',⟨rfl,rfl⟩,rfl,rfl⟩
 refine ⟨by simp [TV.ren,ba],?_⟩
 rw [VT.back_nil]
 simp [VO.ren,V5]
theorem V7 (ro:Nat)(T:VT):pB 0 (.val (.slice none 0 0)) T ro T:=by
 unfold pB
 exact VCx.liftPure (y:=.val (.slice none 0 0)) au (ak ac aa an ai (P6 0 0 [] ⟨[],[]⟩ _) ⟨rfl,rfl⟩) rfl (λ_ _=>rfl) ⟨rfl,rfl⟩
theorem V8 {gy:TV}{gT:VT}:∀ro ys T K,zd gy gT ro ys T K→VCx prog ae ro uF ys T K:=by
 intro ro ys T K hw
 unfold zd at hw
 split at hw
 ·obtain ⟨h,hk⟩:=hw
  exact VCx.mono h λx T1 ⟨h1,h2⟩=>by subst h1 h2;exact hk
 ·exact hw.elim
theorem vS:∀l:List Int,(bV l).flatten=l.map eY
 |[]=>rfl
 |z::l=>by
  have:=vS l
  simp only [bV,map_cons,flatten_cons] at this ⊢
  rw [this];rfl
theorem At {w:Bs}(h:IsB w):RwOk w.flatten 0 w.length∧aC w.flatten 0 w.length=w:=by
 obtain ⟨⟨l,rfl,hz⟩,hl⟩:=h
 have hn:(bV l).length=l.length:=by simp [bV]
 rw [vS,hn]
 rw [hn] at hl
 refine ⟨⟨by simp,by simpa using hl,l,rfl,hz⟩,?_⟩
 rw [ov (by omega)]
 simp
theorem IsB.append {a b:Bs}(h:IsB a)(k:IsB b)(hl:(a++b).length≤32000000):IsB (a++b):=by
 obtain ⟨⟨l,rfl,hz⟩,_⟩:=h
 obtain ⟨⟨m,rfl,hy⟩,_⟩:=k
 refine ⟨⟨l++m,by simp [bV],λz h=> ?_⟩,hl⟩
 rcases mem_append.1 h with h | h
 ·exact hz z h
 ·exact hy z h
theorem sP {w:Bs}(h:IsB w):w.flatten.length=w.length:=by
 obtain ⟨⟨l,rfl,_⟩,_⟩:=h
 rw [vS]
 simp [bV]
theorem Au {gy:TV}{gT:VT}:bf prog ae (aF [(uF,zd gy gT)]):=aL λp hp=>by
 obtain rfl:=mem_singleton.1 hp;exact V8
theorem GN {a b:Bs}{tok tok1 tok2:Tok}(ha:IsB a)(hb:IsB b)(hs:a.length+b.length≤32000000)(h0:0<a.length+b.length):VCx prog ae 0 lY [.vec 1 [[.vec 1 a tok1],[.vec 1 b tok2]] tok] ⟨[],[]⟩ λx T'=>x=.row 1 0 0 (a.length+b.length)∧T'=⟨[.row (a++b).flatten],[]⟩:=by
 obtain ⟨inf,i1,i2,i3,i4⟩:=cO
 have hW:RwOk (a++b).flatten 0 (a++b).length:=(At (IsB.append ha hb (by rw [length_append];exact hs))).1
 have hfa:=sP ha
 have wr:∀m:Nat,m≤32000000→wrap i64 ((0:Int)+(m:Int))=(m:Int):=λm hm=>by rw [Int.zero_add,b6 (by omega) (by omega)]
 have wr2:wrap i64 (wrap i64 ((0:Int)+(a.length:Int))+(b.length:Int))=((a.length+b.length:Nat):Int):=by rw [wr _ (by omega),b6 (by omega) (by omega)];omega
 have fin:∀{i:Nat} {x:TV} {T:VT},x=.row 1 i 0 (a.length+b.length)→T.objs[i]?=some (.row (a++b).flatten)→∃is ks:List Nat,(is.Nodup∧ks.Nodup∧(∀j∈is,j<T.objs.length)∧(∀k∈ks,k<T.tails.length)∧(∀j,j<(⟨[],[]⟩:VT).objs.length→is[j]?=some j)∧(∀j,j<(⟨[],[]⟩:VT).tails.length→ks[j]?=some j))∧(x.ren (aU is) (aU ks)=.row 1 0 0 (a.length+b.length)∧T.give is ks=⟨[.row (a++b).flatten],[]⟩):=by
  rintro i x T rfl ho
  refine ⟨[i],[],⟨by simp,by simp,?_,by simp,by simp,by simp⟩,?_,?_⟩
  ·intro j hj
   obtain rfl:=mem_singleton.1 hj
   exact (List.getElem?_eq_some_iff.1 ho).1
  ·simp [TV.ren,aU]
  ·simp only [VT.give,map_cons,map_nil,ho,getD_some,hW.ren]
 refine VCx.pick ?_
 cases a with
 |nil=>
  cases b with
  |nil=>simp at h0
  |cons r b=>
   refine ak ac aa Au ai (V2 r b (b.length+1) (zR (b.length+1)) tok tok1 tok2 ⟨[.gone,.row (r::b).flatten],[]⟩ _) ?_
   have w1:wrap i64 (wrap i64 ((0:Int)+((0:Nat):Int))+(((r::b).length:Nat):Int))=((b.length+1:Nat):Int):=by
    rw [show wrap i64 ((0:Int)+((0:Nat):Int))=0 from rfl];exact wr _ (by simp only [length_nil,length_cons] at hs ⊢;omega)
   refine aO ?_ ⟨?_,?_,fin (i:=1) (by simp) rfl⟩
   ·exact decide_eq_false (by have e:=w1;simp only [length_cons] at e ⊢;rw [e];omega)
   ·have e:=w1
    simp only [length_cons] at e ⊢
    rw [e]
    exact ze (n:=((b.length+1:Nat):Int)) (by omega) (by simp only [length_nil,length_cons] at hs;omega) 0 ⟨[],[]⟩
   ·have h:=lX (P:=prog) (G:=ae) (ro:=0) (T:=⟨[.row (zR (b.length+1))],[]⟩) (t:=22) (tx:=22) (s:=.tmp 31) (x:=.tmp 32) (l:= [(31,.row 1 0 0 0),(32,.vec 1 (r::b) tok2)]) (inf:=inf) (id:=0) (n:=0) (cs:=zR (b.length+1)) (q0:=r) (qs:=b) underlying22 i1 i4 (by rw [i2];rfl) rfl rfl (by rw [i2];rfl) rfl (zero_le _) (by omega) (by rw [i2];rfl) (by rw [i3];simp only [length_nil,length_cons] at hs ⊢;omega)
    rw [i2,zero_mul,zero_add] at h
    exact h
 |cons q a=>
  cases b with
  |nil=>
   refine ak ac aa Au ai (V1 q a (a.length+1) (zR (a.length+1)) tok tok1 tok2 ⟨[.gone,.row (q::a).flatten],[]⟩ _) ?_
   have w1:wrap i64 ((0:Int)+(((q::a).length:Nat):Int))=((a.length+1:Nat):Int):=wr _ (by simp only [length_nil,length_cons] at hs ⊢;omega)
   have w2:wrap i64 (wrap i64 ((0:Int)+(((q::a).length:Nat):Int))+((0:Nat):Int))=((a.length+1:Nat):Int):=by
    rw [w1];exact b6 (by omega) (by simp only [length_nil,length_cons] at hs;omega)
   simp only [length_cons] at w1 w2
   refine aO ?_ (aO ?_ ⟨?_,?_,fin (i:=1) (by simp) (by simp)⟩)
   ·exact decide_eq_false (by simp only [length_cons];rw [w1];omega)
   ·exact decide_eq_false (by simp only [length_cons];rw [w2];omega)
   ·simp only [length_cons];rw [w2]
    exact ze (n:=((a.length+1:Nat):Int)) (by omega) (by simp only [length_nil,length_cons] at hs;omega) 0 ⟨[],[]⟩
   ·have h:=lX (P:=prog) (G:=ae) (ro:=0) (T:=⟨[.row (zR (a.length+1))],[]⟩) (t:=22) (tx:=22) (s:=.tmp 31) (x:=.tmp 32) (l:= [(31,.row 1 0 0 0),(32,.vec 1 (q::a) tok1)]) (inf:=inf) (id:=0) (n:=0) (cs:=zR (a.length+1)) (q0:=q) (qs:=a) underlying22 i1 i4 (by rw [i2];rfl) rfl rfl (by rw [i2];rfl) rfl (zero_le _) (by omega) (by rw [i2];rfl) (by rw [i3];simp only [length_nil,length_cons] at hs ⊢;omega)
    rw [i2,zero_mul,zero_add] at h
    exact h
  |cons r b=>
   refine ak ac aa Au ai (SR q r a b (a.length+1) (zR ((q::a).length+(r::b).length)) tok tok1 tok2 (.row 1 2 0 ((q::a).length+(r::b).length)) ⟨[.row (zR ((q::a).length+(r::b).length))],[]⟩ ⟨[.gone,.row (q::a).flatten],[]⟩ ⟨[.gone,.gone,.row ((q::a).flatten++(r::b).flatten)],[]⟩ _) ?_
   have w1:=wr (q::a).length (by omega)
   refine aO ?_ (aO ?_ ⟨?_,?_,?_,fin (i:=2) rfl (by simp)⟩)
   ·rw [w1];exact decide_eq_false (by omega)
   ·rw [wr2];exact decide_eq_false (by omega)
   ·rw [wr2];exact ze (n:=(((q::a).length+(r::b).length:Nat):Int)) (by omega) (by omega) 0 ⟨[],[]⟩
   ·have h:=lX (P:=prog) (G:=ae) (ro:=0) (T:=⟨[.row (zR ((q::a).length+(r::b).length))],[]⟩) (t:=22) (tx:=22) (s:=.tmp 31) (x:=.tmp 32) (l:= [(31,.row 1 0 0 0),(32,.vec 1 (q::a) tok1)]) (inf:=inf) (id:=0) (n:=0) (cs:=zR ((q::a).length+(r::b).length)) (q0:=q) (qs:=a) underlying22 i1 i4 (by rw [i2];rfl) rfl rfl (by rw [i2];rfl) rfl (zero_le _) (by omega) (by rw [i2];rfl) (by rw [i3];omega)
    rw [i2,zero_mul,zero_add] at h
    exact h
   ·have h:=lX (P:=prog) (G:=ae) (ro:=0) (T:=⟨[.gone,.row (q::a).flatten],[]⟩) (t:=22) (tx:=22) (s:=.tmp 31) (x:=.tmp 32) (l:= [(31,.row 1 1 0 (q::a).length),(32,.vec 1 (r::b) tok2)]) (inf:=inf) (id:=1) (n:=(q::a).length) (cs:=(q::a).flatten) (q0:=r) (qs:=b) underlying22 i1 i4 (by rw [i2];rfl) rfl rfl (by rw [i2];rfl) rfl (zero_le _) (by rw [i2];omega) (by rw [i2];rfl) (by rw [i3];omega)
    rw [i2,mul_one,List.take_of_length_le (by omega)] at h
    exact h
theorem ST {tok tok1 tok2:Tok}:VCx prog ae 0 lY [.vec 1 [[.vec 1 [] tok1],[.vec 1 [] tok2]] tok] ⟨[],[]⟩ λx T'=>x=.val (.slice none 0 0)∧T'=⟨[],[]⟩:=
 ak ac aa Au ai (V3 tok tok1 tok2 _) ⟨V7 _ _,rfl,rfl⟩
--bumped 32
def gu (id:Nat):Code→Option Code
 | .region i ops d=>bif beq i id then some (.region i ops d) else none
 | .block _ c=>gu id c
 | .seq a b=>match gu id a with
  |some c=>some c
  |none=>gu id b
 | .cond _ a b=>match gu id a with
  |some c=>some c
  |none=>gu id b
 | .loop c=>gu id c
 | .scope c=>gu id c
 |_=>none
def fM (P:Program)(f:FuncId)(id:Nat):Code:=(gu id (yr P f)).getD .skip
def I1 (P:Program)(G:aV)(C:FuncId→Option aW)(F2:jq)(n:Nat)(c:Code):bN:=λ_ ro σ T D K=>match c with
 | .region _ ops false=>wY P G aT (kX P C (vx P G C aT n λ_=>none)) (rl (vx P G C F2 n λ_=>none)) ro ops ops.toList σ T λσ T=>K .normal σ T D
 |_=>False
section
variable {P:Program}{G:aV}
theorem SU {C:FuncId→Option aW}(hm:P.follows .mixedOrders=true)(hB:jw P=true)(hC:bf P G C){F2:jq}{n:Nat}{c:Code}:∀rd ro σ T D K,I1 P G C F2 n c rd ro σ T D K→VWx P G rd ro c σ T D K:=by
 intro rd ro σ T D K h
 unfold I1 at h
 split at h
 ·exact yi (A0 hB hC (vw hm hB hC n n (le_refl _) aT _ ai)) (AZ (vw hm hB hC n n (le_refl _) F2 _ ai)) h
 ·exact h.elim
def I2 (i:Nat)(a:bN × Code)(j:Nat)(b:bN × Code):Nat→Option (bN × Code):=λk=>bif beq k i then some a else bif beq k j then some b else none
theorem SV {i j:Nat}{a b:bN × Code}(ha:∀rd ro σ T D K,a.1 rd ro σ T D K→VWx P G rd ro a.2 σ T D K)(hb:∀rd ro σ T D K,b.1 rd ro σ T D K→VWx P G rd ro b.2 σ T D K):dd P G (I2 i a j b):=by
 intro k W c h
 unfold I2 at h
 cases h1:beq k i
 ·rw [h1,cond_false] at h
  cases h2:beq k j
  ·rw [h2,cond_false] at h;cases h
  ·rw [h2,cond_true] at h
   cases h;exact hb
 ·rw [h1,cond_true] at h
  cases h;exact ha
end
def uG (b:Bs)(pas:Int):Bool:=match fh b pas with
 | .inr _=>true
 | .inl _=>false
def OO (M:MsgS)(b:Bs)(pas:Int):Prop:=fh b pas=.inr M
def V9 (c:Nat)(s:Int)(d:Bs)(b:Bs)(pas:Int):Prop:=fh b pas=.inl (((c+1:Nat):Int),s,d)
def m0S:MsgS:=⟨0,⟨0,0,0,[]⟩,⟨[],0,[],0,0,false,[]⟩,0,0,[]⟩
def P7:aW:=λro ys T K=>match ys with
 |[.row 1 k off n,.val (.int .i64 pas)]=>match T.objs[k]? with
  |some (.row cs)=>(ble ro k=true∧RwOk cs off n∧ble 19 n=true∧off=0)∧bif uG (aC cs off n) pas then ∀M:MsgS,OO M (aC cs off n) pas→K (.tup [.agg M.cells,cK 0 0 []]) T else ∀(c:Nat) (s:Int) (d:Bs),V9 c s d (aC cs off n) pas→K (.tup [.agg m0S.cells,cK (ofNat (c+1)) s d]) T
  |_=>aJ 80 default ys
 |_=>aJ 83 default ys
def Ll:aW:=λ_ ys T K=>match ys with
 |[.vec 1 [[.vec 1 a _],[.vec 1 b _]] _]=>(IsB a∧IsB b∧ble (a.length+b.length) 32000000=true)∧bif beq (a.length+b.length) 0 then K (.val (.slice none 0 0)) T else K (.row 1 T.objs.length 0 (a.length+b.length)) {T with objs:=T.objs++ [.row (a++b).flatten]}
 |_=>aJ 83 default ys
abbrev rC:=11
abbrev iO:=64
def gv:Code→Option (Code × Code)
 | .rangeFunc _ _ a b=>some (a,b)
 | .block _ c=>gv c
 | .seq a b=>match gv a with
  |some c=>some c
  |none=>gv b
 | .cond _ a b=>match gv a with
  |some c=>some c
  |none=>gv b
 | .loop c=>gv c
 | .scope c=>gv c
 |_=>none
noncomputable def eJ:Code:=match gv (yr prog rC) with
 |some (a,_)=>a
 |none=>.skip
noncomputable def dB:Code:=match gv (yr prog rC) with
 |some (_,b)=>b
 |none=>.skip
def iq (pas:Int)(x:TV)(c s:Int)(d:TV)(n:Int):VO:=.cells [.val (.bool true),.val (.int .i64 pas),x,.val (.int .i64 c),.val (.int .i64 s),d,.val (.int .i64 n)]
def fdS:List TV:= [.dead,.dead,.ptr 1 0,.dead,.dead,.dead,.ptr 3 0]++List.replicate 50 .dead
noncomputable def pD (pas c s n:Int)(d x l:TV)(ds:List TV)(tl:iJ)(st:LoopState)(pe:Option Code):VT:=⟨[iq pas x c s d n,.cells [.ptr 0 0],.row ds,.cells [l],.cells [.ptr 0 0],.loop st pe fdS #[34,35] eJ dB],tl⟩
def fwS:List TV:= [.yld 5,.ptr 4 0]++List.replicate 82 .dead
abbrev qv (M:MsgS):VO:=(t6 (MsgS.k M) (OpS.n (MsgS.op M)) (OpS.h (MsgS.op M)) (OpS.i (MsgS.op M)) (OpS.l (MsgS.op M)) (UpS.w (MsgS.u M)) (UpS.o (MsgS.u M)) (UpS.x (MsgS.u M)) (UpS.h (MsgS.u M)) (UpS.m (MsgS.u M)) (UpS.hm (MsgS.u M)) (UpS.n (MsgS.u M)) (MsgS.c M) (MsgS.s M) (MsgS.d M))
theorem Zq (pas n:Int)(N k k2:Nat)(r:Int)(x1 y73:TV)(l1:List (List TV))(tk1:Tok)(ds ds2:List TV)(tl tl2:iJ)(Q:Exit→List TV→List VO→iJ→List Nat→Nat→Prop):vx prog be (aF [(Bq,Ei),(GJ,P7)]) (aZ [(999998,.dead,none),(46,.row 1 2 0 k,none),(73,y73,none),(74,.val (.int .i64 r),some λT=>{T with objs:=T.objs.set 2 (.row ds2)}),(81,.row 1 2 0 k2,none)]) 300 (I2 999997 (λ_ _ _ _ _ _=>False,.skip) 1000006 (I1 prog be bt (aZ [(49,.vec 15 l1 tk1,some λT=>{T with tails:=tl2})]) 250 (fM prog iO 6),fM prog iO 6)) none 0 (cq prog iO 0) fwS (pD pas 0 0 n ij (lI N) x1 ds tl .ready none) [] (λe σ T D=>Q e (pick [0,1] σ) (T.objs.take 6) T.tails D σ.length)=
 (bif decide ((↑N:Int)≥(19:Int))
 then (((@Eq (Bool) true true)∧
 (RwOk (ds) 0 (N)∧
 ((@Eq (Bool) (ble (19:Nat) N) true)∧
 (@Eq (Nat) 0 0))))∧
 (bif dg (aC ds (0:Nat) N)
 then (bif decide (bI (aC ds (0:Nat) N)>(↑N:Int))
 then Q .ret [(.yld 5),mY] [(xg pas N n),cl,(.row (ds)),(nE x1),cl,(.loop .ready .none [.dead,.dead,iy,.dead,.dead,.dead,om,.dead,.dead,.dead,.dead,.dead,.dead,.dead,.dead,.dead,.dead,.dead,.dead,.dead,.dead,.dead,.dead,.dead,.dead,.dead,.dead,.dead,.dead,.dead,.dead,.dead,.dead,.dead,.dead,.dead,.dead,.dead,.dead,.dead,.dead,.dead,.dead,.dead,.dead,.dead,.dead,.dead,.dead,.dead,.dead,.dead,.dead,.dead,.dead,.dead,.dead] #[34,35] eJ dB)] (tl) [] 84
 else (bc prog (λkk=>(bif beq kk (0:Nat) then (.some gl) else .none)) (.slice 22 (.tmp 44) .none (.some (.tmp 45)) .none) [(44,(lI N)),(45,(ah (bI (aC ds (0:Nat) N))))] (lI k)∧
 (((@Eq (Bool) true true)∧
 (RwOk (ds) 0 (k)∧
 ((@Eq (Bool) (ble (19:Nat) k) true)∧
 (@Eq (Nat) 0 0))))∧
 (bif uG (aC ds (0:Nat) k) pas
 then (∀M:MsgS,(OO (M) (aC ds (0:Nat) k) (pas)→((fM prog iO (6:Nat)=fM prog iO (6:Nat))∧
 (bb prog (λkk=>(bif beq kk (0:Nat) then (.some gl) else .none)) 0 ⟨[(xg pas N n),cl,(bB ds),(nE x1),cl,(.loop .busy .none [.dead,.dead,(.ptr 1 0),.dead,.dead,.dead,(.ptr 3 0),.dead,.dead,.dead,.dead,.dead,.dead,.dead,.dead,.dead,.dead,.dead,.dead,.dead,.dead,.dead,.dead,.dead,.dead,.dead,.dead,.dead,.dead,.dead,.dead,.dead,.dead,.dead,.dead,.dead,.dead,.dead,.dead,.dead,.dead,.dead,.dead,.dead,.dead,.dead,.dead,.dead,.dead,.dead,.dead,.dead,.dead,.dead,.dead,.dead,.dead] #[34,35] eJ dB),eg,(qv M),(qv M),eg],tl⟩ (.call ⟨(.builtin .append),#[(.tmp 46),(.tmp 48)],#[25,25]⟩) [(46,(x1)),(48,(.vec 15 [[(.val (.int .i64 (MsgS.k M))),(.val (.int .i64 (OpS.n (MsgS.op M)))),(.val (.int .i64 (OpS.h (MsgS.op M)))),(.val (.int .u32 (OpS.i (MsgS.op M)))),(.vec 2 (OpS.l (MsgS.op M)) .none),(.vec 2 (UpS.w (MsgS.u M)) .none),(.val (.int .i64 (UpS.o (MsgS.u M)))),(.vec 1 (UpS.x (MsgS.u M)) .none),(.val (.int .u32 (UpS.h (MsgS.u M)))),(.val (.int .i64 (UpS.m (MsgS.u M)))),(.val (.bool (UpS.hm (MsgS.u M)))),(.vec 2 (UpS.n (MsgS.u M)) .none),(.val (.int .i64 (MsgS.c M))),(.val (.int .i64 (MsgS.s M))),(.vec 1 (MsgS.d M) .none)]] .full))] (.vec 15 l1 tk1) ⟨[(xg pas N n),cl,(bB ds),(nE x1),cl,(.loop .busy .none [.dead,.dead,(.ptr 1 0),.dead,.dead,.dead,(.ptr 3 0),.dead,.dead,.dead,.dead,.dead,.dead,.dead,.dead,.dead,.dead,.dead,.dead,.dead,.dead,.dead,.dead,.dead,.dead,.dead,.dead,.dead,.dead,.dead,.dead,.dead,.dead,.dead,.dead,.dead,.dead,.dead,.dead,.dead,.dead,.dead,.dead,.dead,.dead,.dead,.dead,.dead,.dead,.dead,.dead,.dead,.dead,.dead,.dead,.dead,.dead] #[34,35] eJ dB),eg,(qv M),(qv M),eg],tl2⟩∧
 (bc prog (λkk=>(bif beq kk (0:Nat) then (.some gl) else .none)) (.slice 22 (.tmp 71) (.some (.tmp 72)) .none .none) [(71,(lI N)),(72,(ah (bI (aC ds (0:Nat) N))))] (y73)∧
 (bb prog (λkk=>(bif beq kk (0:Nat) then (.some gl) else .none)) 0 ⟨[(xg pas N (wrap i64 (n+(1:Int)))),cl,(bB ds),(.cells [(.vec 15 l1 tk1)]),cl,(.loop .ready .none [.dead,.dead,(.ptr 1 0),.dead,.dead,.dead,(.ptr 3 0),.dead,.dead,.dead,.dead,.dead,.dead,.dead,.dead,.dead,.dead,.dead,.dead,.dead,.dead,.dead,.dead,.dead,.dead,.dead,.dead,.dead,.dead,.dead,.dead,.dead,.dead,.dead,.dead,.dead,.dead,.dead,.dead,.dead,.dead,.dead,.dead,.dead,.dead,.dead,.dead,.dead,.dead,.dead,.dead,.dead,.dead,.dead,.dead,.dead,.dead] #[34,35] eJ dB),eg,(qv M),(qv M),eg],tl2⟩ (.call ⟨(.builtin .copy),#[(.tmp 67),(.tmp 73)],#[22,22]⟩) [(67,(lI N)),(73,(y73))] (ah r) ⟨[(xg pas N (wrap i64 (n+(1:Int)))),cl,(bB ds2),(.cells [(.vec 15 l1 tk1)]),cl,(.loop .ready .none [.dead,.dead,(.ptr 1 0),.dead,.dead,.dead,(.ptr 3 0),.dead,.dead,.dead,.dead,.dead,.dead,.dead,.dead,.dead,.dead,.dead,.dead,.dead,.dead,.dead,.dead,.dead,.dead,.dead,.dead,.dead,.dead,.dead,.dead,.dead,.dead,.dead,.dead,.dead,.dead,.dead,.dead,.dead,.dead,.dead,.dead,.dead,.dead,.dead,.dead,.dead,.dead,.dead,.dead,.dead,.dead,.dead,.dead,.dead,.dead] #[34,35] eJ dB),eg,(qv M),(qv M),eg],tl2⟩∧
 (bc prog (λkk=>(bif beq kk (0:Nat) then (.some gl) else .none)) (.slice 22 (.tmp 79) .none (.some (.tmp 80)) .none) [(79,(lI N)),(80,(ah r))] (lI k2)∧
 Q .normal [(.yld 5),mY] [(xg pas k2 (wrap i64 (n+(1:Int)))),cl,(.row (ds2)),(.cells [(.vec 15 l1 tk1)]),cl,(.loop .ready .none [.dead,.dead,iy,.dead,.dead,.dead,om,.dead,.dead,.dead,.dead,.dead,.dead,.dead,.dead,.dead,.dead,.dead,.dead,.dead,.dead,.dead,.dead,.dead,.dead,.dead,.dead,.dead,.dead,.dead,.dead,.dead,.dead,.dead,.dead,.dead,.dead,.dead,.dead,.dead,.dead,.dead,.dead,.dead,.dead,.dead,.dead,.dead,.dead,.dead,.dead,.dead,.dead,.dead,.dead,.dead,.dead] #[34,35] eJ dB)] (tl2) [] 84)))))))
 else (∀c:Nat,(∀s:Int,(∀d:Bs,(V9 (c) (s) (d) (aC ds (0:Nat) k) (pas)→((fM prog iO (6:Nat)=fM prog iO (6:Nat))∧
 Q .ret [(.yld 5),mY] [(.cells [aI,(ah pas),aE,(ah (ofNat (c+(1:Nat)))),(ah s),(av d),(ah n)]),cl,(.row (ds)),(nE x1),cl,(.loop .done (.some (Code.exit (0:Nat))) [.dead,.dead,iy,.dead,.dead,.dead,om,.dead,.dead,.dead,.dead,.dead,.dead,.dead,.dead,.dead,.dead,.dead,.dead,.dead,.dead,.dead,.dead,.dead,.dead,.dead,.dead,.dead,.dead,.dead,.dead,.dead,.dead,.dead,.dead,.dead,.dead,.dead,.dead,.dead,.dead,.dead,.dead,.dead,.dead,.dead,.dead,.dead,.dead,.dead,.dead,.dead,.dead,.dead,.dead,.dead,.dead] #[34,35] eJ dB)] (tl) [] 84)))))))))
 else ((fM prog iO (6:Nat)=fM prog iO (6:Nat))∧
 Q .ret [(.yld 5),mY] [(.cells [aI,(ah pas),aE,dK,(ah (nu (aC ds (0:Nat) N))),(av (lT (aC ds (0:Nat) N))),(ah n)]),cl,(.row (ds)),(nE x1),cl,(.loop .done (.some (Code.exit (0:Nat))) [.dead,.dead,iy,.dead,.dead,.dead,om,.dead,.dead,.dead,.dead,.dead,.dead,.dead,.dead,.dead,.dead,.dead,.dead,.dead,.dead,.dead,.dead,.dead,.dead,.dead,.dead,.dead,.dead,.dead,.dead,.dead,.dead,.dead,.dead,.dead,.dead,.dead,.dead,.dead,.dead,.dead,.dead,.dead,.dead,.dead,.dead,.dead,.dead,.dead,.dead,.dead,.dead,.dead,.dead,.dead,.dead] #[34,35] eJ dB)] (tl) [] 84)))
 else Q (.exit 0) [(.yld 5),mY] [(xg pas N n),cl,(.row (ds)),(nE x1),cl,(.loop .ready .none [.dead,.dead,iy,.dead,.dead,.dead,om,.dead,.dead,.dead,.dead,.dead,.dead,.dead,.dead,.dead,.dead,.dead,.dead,.dead,.dead,.dead,.dead,.dead,.dead,.dead,.dead,.dead,.dead,.dead,.dead,.dead,.dead,.dead,.dead,.dead,.dead,.dead,.dead,.dead,.dead,.dead,.dead,.dead,.dead,.dead,.dead,.dead,.dead,.dead,.dead,.dead,.dead,.dead,.dead,.dead,.dead] #[34,35] eJ dB)] (tl) [] 84):=by kernel_rfl
--bumped 32
theorem OP {b:Bs}{pas:Int}{c s:Int}{d:Bs}(h:fh b pas=.inl (c,s,d)):∃k:Nat,c=((k+1:Nat):Int):=by
 unfold fh at h
 have go:∀{q:Int × Int × Bs},(q.1=1∨q.1=2∨q.1=3)→q=(c,s,d)→∃k:Nat,c=((k+1:Nat):Int):=by
  rintro q hq rfl
  rcases hq with h | h | h
  ·exact ⟨0,h⟩
  ·exact ⟨1,h⟩
  ·exact ⟨2,h⟩
 cases h1:dg b<;>rw [h1] at h<;>simp only [cond_true,cond_false] at h
 ·exact go (.inl rfl) (Sum.inl.inj h)
 split at h
 ·exact go (.inl rfl) (Sum.inl.inj h)
 split at h
 ·exact go (.inl rfl) (Sum.inl.inj h)
 split at h
 ·cases h2:ib (b.drop 19) pas<;>rw [h2] at h<;>simp only [cond_true,cond_false] at h
  ·exact go (.inr (.inl rfl)) (Sum.inl.inj h)
  ·cases h
 split at h
 ·cases h2:iC (b.drop 19)<;>rw [h2] at h<;>simp only [cond_true,cond_false] at h
  ·exact go (.inr (.inr rfl)) (Sum.inl.inj h)
  ·cases h
 split at h
 ·cases h2:jB (b.drop 19)<;>rw [h2] at h<;>simp only [cond_true,cond_false] at h
  ·exact go (.inl rfl) (Sum.inl.inj h)
  ·cases h
 cases h
theorem Wa:∀ro ys T K,P7 ro ys T K→VCx prog be ro GJ ys T K:=by
 intro ro ys T K hw
 unfold P7 at hw
 split at hw
 ·split at hw
  ·rename_i k off n pas _ cs ho
   obtain ⟨⟨hro,h,hn,rfl⟩,hk⟩:=hw
   refine VCx.atRow bQ (le_of_ble_eq_true hro) ho h.ren (GI pas h.is) (by simp [ap,TV.ren,aU]) (VZ h (le_of_ble_eq_true hn) pas) ?_
   unfold y7
   cases hP:fh (aC cs 0 n) pas with
   |inl p=>
    obtain ⟨c,s,d⟩:=p
    obtain ⟨j,rfl⟩:=OP hP
    rw [show uG (aC cs 0 n) pas=false by unfold uG;rw [hP],cond_false] at hk
    exact hk j s d hP
   |inr M=>
    rw [show uG (aC cs 0 n) pas=true by unfold uG;rw [hP],cond_true] at hk
    exact hk M hP
  ·exact hw.elim
 ·exact hw.elim
theorem OQ {ds:List TV}{N n:Nat}(h:RwOk ds 0 N)(hn:n≤N):RwOk (bW ds 0 (aC ds n (N-n)).flatten) 0 (N-n)∧aC (bW ds 0 (aC ds n (N-n)).flatten) 0 (N-n)=(aC ds 0 N).drop n:=by
 have hd:=SI h hn
 rw [zero_add] at hd
 rw [hd]
 obtain ⟨h1,h2,l,rfl,hz⟩:=h
 rw [length_map] at h1 h2
 have hl:((l.drop n).take (N-n)).length=N-n:=by rw [List.length_take,length_drop];omega
 have e0:aC (l.map eY) n (N-n)=bV ((l.drop n).take (N-n)):=ov (by omega)
 have e1:bW (l.map eY) 0 (aC (l.map eY) n (N-n)).flatten=((l.drop n).take (N-n)++l.drop (N-n)).map eY:=by
  rw [e0,vS]
  simp only [bW,List.take_zero,nil_append,length_map,hl,zero_add,List.map_append,List.map_drop]
 have hl2:((l.drop n).take (N-n)++l.drop (N-n)).length=l.length:=by rw [length_append,hl,length_drop];omega
 rw [e1]
 refine ⟨⟨by rw [length_map,hl2];omega,by rw [length_map,hl2];exact h2,_,rfl,λz hz2=> ?_⟩,?_⟩
 ·rcases mem_append.1 hz2 with q | q
  ·exact hz z (List.mem_of_mem_drop (List.mem_of_mem_take q))
  ·exact hz z (List.mem_of_mem_drop q)
 ·rw [ov (by rw [hl2];omega),e0,List.drop_zero,List.take_append_of_le_length (by rw [hl];exact le_refl _),List.take_of_length_le (by rw [hl];exact le_refl _)]
theorem Wb:∀ro ys T K,Ll ro ys T K→VCx prog be ro lY ys T K:=by
 intro ro ys T K hw
 unfold Ll at hw
 split at hw
 ·rename_i a tok1 b tok2 tok
  obtain ⟨⟨ha,hb,hs⟩,hk⟩:=hw
  have hs:=le_of_ble_eq_true hs
  have hx:ap (aU []) (aU []) [.vec 1 [[.vec 1 a tok1],[.vec 1 b tok2]] tok]= [.vec 1 [[.vec 1 a (tok1.ren (aU []) (aU []))],[.vec 1 b (tok2.ren (aU []) (aU []))]] (tok.ren (aU []) (aU []))]:=by
   simp only [ap,bk,TV.ren,ha.ren,hb.ren]
  refine VCx.anyG ?_
  by_cases h0:a.length+b.length=0
  ·obtain rfl:a= []:=List.eq_nil_of_length_eq_zero (by omega)
   obtain rfl:b= []:=List.eq_nil_of_length_eq_zero (by omega)
   rw [show beq (([]:Bs).length+([]:Bs).length) 0=true from rfl,cond_true] at hk
   exact VCx.liftPure au ST hx (λ_ _=>rfl) hk
  ·have hbq:beq (a.length+b.length) 0=false:=by
    cases h:beq (a.length+b.length) 0
    ·rfl
    ·exact absurd (Nat.eq_of_beq_eq_true h) h0
   rw [hbq,cond_false] at hk
   have hW:RwOk (a++b).flatten 0 (a++b).length:=(At (IsB.append ha hb (by rw [length_append];exact hs))).1
   refine (VCx.lift (T:=T) [] [] au nodup_nil nodup_nil (by simp) (by simp) (by simp) hx (by rw [VT.give_nil];exact GN ha hb hs (by omega)) (λ_ _ _=>⟨zero_le _,zero_le _⟩)).mono ?_
   rintro z T' ⟨x,T'',⟨rfl,rfl⟩,rfl,rfl⟩
   rw [VT.back_nil]
   simp only [map_cons,map_nil,hW.ren,append_nil]
   simpa [TV.ren,ba] using hk
 ·exact hw.elim
def PxWf (l:Bs):Prop:=∃p:List (Int × Int),l=p.map cP∧p.length≤64000000
def IvWf (x:Bs):Prop:=∃l:List Int,x=iV l∧l.length≤64000000
def CpWf (l:Bs):Prop:=∃c:List (Int × Bs),l=c.map bU∧AllB c∧c.length≤64000000
def OpWf (o:OpS):Prop:=CpWf o.l
def UpWf (u:UpS):Prop:=PxWf u.w∧PxWf u.n∧IvWf u.x
def MsWf (m:MsgS):Prop:=OpWf m.op∧UpWf m.u∧IsB m.d
def OS (l l':Bs):Prop:=l=l'∧PxWf l
def Wc (l l':List TV):Prop:=l=l'∧∃(o h m:Int) (hm:Bool) (x:Bs),IvWf x∧l= [.val (.int .i64 o),.vec 1 x .none,.val (.int .u32 h),.val (.int .i64 m),.val (.bool hm)]
def Wd (l l':List TV):Prop:=l=l'∧∃o:OpS,OpWf o∧l=o.cells
def We (l l':List TV):Prop:=l=l'∧∃u:UpS,UpWf u∧l=u.cells
def Wf (l l':List TV):Prop:=l=l'∧∃(c s:Int) (d:Bs),IsB d∧l= [.val (.int .i64 c),.val (.int .i64 s),.vec 1 d .none]
def Wg (l l':List TV):Prop:=l=l'∧∃m:MsgS,MsWf m∧l=m.cells
theorem PxWf.nil:PxWf []:=⟨[],rfl,zero_le _⟩
theorem IvWf.nil:IvWf []:=⟨[],rfl,zero_le _⟩
theorem CpWf.nil:CpWf []:=⟨[],rfl,.nil,zero_le _⟩
theorem zf:UpWf nW:=⟨.nil,.nil,.nil⟩
theorem zg:OpWf GF:=CpWf.nil
theorem I3:MsWf m0:=⟨zg,zf,.nil⟩
theorem PxWf.ren {l:Bs}(h:PxWf l)(f g:Nat→Option Nat):bk f g l=l:=by
 obtain ⟨p,rfl,_⟩:=h
 exact jz f g p
theorem IvWf.ren {l:Bs}(h:IvWf l)(f g:Nat→Option Nat):bk f g l=l:=by
 obtain ⟨p,rfl,_⟩:=h
 exact dm f g p
theorem CpWf.ren {l:Bs}(h:CpWf l)(f g:Nat→Option Nat):bk f g l=l:=by
 obtain ⟨p,rfl,h2,_⟩:=h
 exact jA f g h2
theorem OpWf.ren {o:OpS}(h:OpWf o)(f g:Nat→Option Nat):ap f g o.cells=o.cells:=by
 simp only [OpS.cells,ap,TV.ren,CpWf.ren h,Tok.ren]
theorem UpWf.ren {u:UpS}(h:UpWf u)(f g:Nat→Option Nat):ap f g u.cells=u.cells:=by
 simp only [UpS.cells,ap,TV.ren,h.1.ren,h.2.1.ren,h.2.2.ren,Tok.ren]
theorem MsWf.ren {m:MsgS}(h:MsWf m):OL m:=rA h.1.ren h.2.1.ren h.2.2.ren
theorem El:∀(k:Nat) (b:Bs) (acc l:List (Int × Int)),i8 k b acc=some l→l.length≤acc.length+b.length
 | 0,_,_,_,h=>by cases h
 |k+1,b,acc,l,h=>by
  unfold i8 at h
  by_cases hl:bw b 0>0
  ·rw [decide_eq_true hl] at h
   cases h2:bO b 0<;>rw [h2] at h
   ·cases h
   ·have h3:=El k _ _ _ h
    have h4:=yG hl
    simp only [length_append,length_cons,length_nil] at h3
    omega
  ·rw [decide_eq_false hl] at h
   injection h with h;subst h;omega
theorem Lm {b:Bs}(hb:b.length≤32000000):PxWf (bg b):=by
 refine ⟨(wA b).getD [],rfl,?_⟩
 cases h:wA b with
 |none=>exact zero_le _
 |some l=>have:=El _ _ _ _ h;simp only [length_nil] at this;simp only [getD_some];omega
theorem GO:∀(k:Nat) (b:Bs) (l r:List Int),l.length≤16→iB k b l=some r→r.length≤16
 | 0,_,_,_,_,h=>by cases h
 |k+1,b,l,r,hl,h=>by
  unfold iB at h
  cases h1:decide (bw b 0>0)<;>rw [h1] at h
  ·injection h with h;exact h▸hl
  ·cases h2:mf b<;>rw [h2] at h
   ·cases h
   ·simp only [cond_true] at h
    split at h
    ·rename_i b' l' he
     exact GO k b' l' r (DV _ _ _ _ _ hl he) h
    ·cases h
theorem SW (v:Bs):IvWf (pt v):=by
 refine ⟨Bl v,rfl,?_⟩
 unfold Bl
 cases h:nr v with
 |none=>exact zero_le _
 |some l=>have:=GO _ _ [] _ (zero_le 16) h;simp only [getD_some];omega
def Ln (x:TV):Prop:=x=.val (.slice none 0 0)∨∃l,x=.vec 1 l .none∧IvWf l
theorem Wh {a:AtS}(h:Ln a.x)(t:Int)(v:Bs):Ln (a.put t v).x:=by
 unfold AtS.put
 split
 ·exact h
 split
 ·exact .inr ⟨_,rfl,SW v⟩
 split
 ·exact h
 split
 ·exact h
 ·exact h
theorem GP:∀(l:List il) (f:Nat→Bool) (a:AtS),Ln a.x→∀a' f',dX l f a=.inr (a',f')→Ln a'.x
 |[],f,a,h,a',f',e=>by injection e with e;injection e with e1 e2;exact e1▸h
 | (fl,t,v)::l,f,a,h,a',f',e=>by
  unfold dX at e
  cases hf:f t.toNat<;>rw [hf] at e
  ·simp only [cond_false] at e
   split at e
   ·exact GP l _ _ (Wh h t v) a' f' e
   ·split at e<;>cases e
  ·cases e
theorem SX (b:Bs):IvWf (i9 b):=by
 have key:∀a:AtS,Ln a.x→∀l,a.fix.x=.vec 1 l .none→IvWf l:=by
  intro a ha l hl
  unfold AtS.fix at hl
  simp only at hl
  rcases ha with h | ⟨l',h,hw⟩<;>rw [h] at hl<;>simp only at hl
  ·injection hl with _ hl;subst hl;exact .nil
  ·injection hl with _ hl;subst hl;exact hw
 have hx:=KW b
 unfold lR at hx
 split at hx
 ·rename_i a h
  refine key a ?_ _ hx
  unfold hU at h
  cases ho:jD b<;>rw [ho] at h
  ·cases h
  ·simp only [cond_true] at h
   split at h
   ·cases h
   ·rename_i a' f' he
    have:=GP _ _ _ (.inl rfl) _ _ he
    unfold lQ at h
    cases g1:f' 1<;>cases g2:f' 2<;>cases g3:f' 3<;>simp only [g1,g2,g3,cond_true,cond_false] at h<;>first | (cases h;done) | (injection h with h;exact h▸this)
 ·exact key uy (.inl rfl) _ hx
theorem Wi {b:Bs}(hb:IsB b):UpWf (lV b):=by
 have hw:PxWf (bg (im b)):=Lm (K1 hb).small
 have hn:PxWf (bg (eX b)):=Lm (K2 hb).small
 have hx:IvWf (i9 (cI b)):=SX _
 have e1:UpWf {nW with w:=bg (im b),n:=bg (eX b)}:=⟨hw,hn,.nil⟩
 have e2:UpWf ⟨bg (im b),nJ (cI b),i9 (cI b),nK (cI b),nL (cI b),nM (cI b),bg (eX b)⟩:=⟨hw,hn,hx⟩
 unfold lV
 split
 ·rename_i u h
  unfold iL at h
  split at h
  ·cases h
  cases g1:gK (im b)<;>simp only [g1,cond_true,cond_false] at h
  ·cases h
  cases g2:gK (eX b)<;>simp only [g2,cond_true,cond_false] at h
  ·cases h
  split at h
  ·injection h with h;exact h▸e1
  cases g3:hZ (cI b)<;>simp only [g3,cond_true,cond_false] at h
  ·split at h
   ·cases h
   split at h
   ·injection h with h;exact h▸e1
   ·cases h
  ·split at h
   ·injection h with h;exact h▸e2
   ·injection h with h;exact h▸e1
 ·exact zf
theorem Em:∀(k:Nat) (b:Bs) (e:Int) (acc l:List (Int × Bs)),IsB b→ke k b e acc=.ok l→l.length≤acc.length+b.length
 | 0,_,_,_,_,_,h=>by cases h
 |k+1,b,e,acc,l,hb,h=>by
  unfold ke at h
  by_cases hl:bw b e>0
  ·rw [decide_eq_true hl] at h
   cases h2:decide (jY b e=0)<;>rw [h2] at h
   ·cases h
   ·cases h3:decide (k9 b e=2)<;>rw [h3] at h
    ·cases h
    ·cases h4:wB (ei b e) 0<;>rw [h4] at h
     ·cases h
     ·have h5:=Em k _ _ _ _ (uo hb) h
      have h6:=nq hl
      have h7:=(up 0 (uj (e:=e) hb)).2.2
      simp only [length_append] at h5
      omega
  ·rw [decide_eq_false hl] at h
   injection h with h;subst h;omega
theorem Wj {b:Bs}(hb:IsB b)(e:Int):CpWf (fV b e):=by
 cases h:qm b e with
 |ok l=>
  rw [(yJ h).2]
  have h2:=Em _ _ _ _ _ hb h
  have h3:=hb.small
  simp only [length_nil] at h2
  exact ⟨l,rfl,Ai _ _ _ _ hb .nil l h,by omega⟩
 |error s=>rw [(vK h).2.1];exact .nil
theorem Wk {b:Bs}(pas:Int)(hb:IsB b):OpWf (qp b pas):=by
 have key:(∃s d,jC b pas=dQ s d)∨(∃n h i l,jC b pas=pp n h i l∧CpWf l):=by
  unfold jC
  split
  ·exact .inl ⟨_,_,rfl⟩
  split
  ·exact .inl ⟨_,_,rfl⟩
  unfold vL fU
  split
  ·exact .inl ⟨_,_,rfl⟩
  split
  ·exact .inl ⟨_,_,rfl⟩
  split
  ·exact .inl ⟨_,_,rfl⟩
  split
  ·exact .inl ⟨_,_,rfl⟩
  split
  ·exact .inl ⟨_,_,rfl⟩
  cases h:gq _ _
  ·exact .inl ⟨_,_,rfl⟩
  ·exact .inr ⟨_,_,_,_,rfl,Wj (aK (aK (aK (aK (aK hb))))) _⟩
 unfold qp qo
 rcases key with ⟨s,d,h⟩ | ⟨n,hh,i,l,h,h2⟩<;>rw [h]
 ·exact zg
 ·exact h2
def tc (b:Bs)(pas:Int):MsgS:=match fh b pas with
 | .inr m=>m
 | .inl _=>m0
def Wl (b:Bs)(pas:Int):Bs:=match fh b pas with
 | .inr _=> []
 | .inl p=>p.2.2
theorem Wm {b:Bs}{pas:Int}(hb:IsB b):MsWf (tc b pas):=by
 have hd:=hb.drop 19
 unfold tc
 split
 ·rename_i m h
  unfold fh at h
  cases h1:dg b<;>rw [h1] at h<;>simp only [cond_true,cond_false] at h
  ·cases h
  split at h
  ·cases h
  split at h
  ·cases h
  split at h
  ·cases h2:ib (b.drop 19) pas<;>rw [h2] at h<;>simp only [cond_true,cond_false] at h
   ·cases h
   ·injection h with h;subst h;exact ⟨Wk pas hd,zf,.nil⟩
  split at h
  ·cases h2:iC (b.drop 19)<;>rw [h2] at h<;>simp only [cond_true,cond_false] at h
   ·cases h
   ·injection h with h;subst h;exact ⟨zg,Wi hd,.nil⟩
  split at h
  ·cases h2:jB (b.drop 19)<;>rw [h2] at h<;>simp only [cond_true,cond_false] at h
   ·cases h
   ·injection h with h;subst h;exact ⟨zg,zf,hd.drop 2⟩
  ·injection h with h;subst h;exact I3
 ·exact I3
theorem is1 {z:Int}(h0:0≤z)(h1:z<256):IsB [bT z]:=⟨⟨[z],rfl,λy hy=>by obtain rfl:=mem_singleton.1 hy;exact ⟨h0,h1⟩⟩,by simp⟩
theorem SY {b:Bs}(hb:IsB b):IsB (jG b):=by
 have key:∀(l:List il) (f':Nat→Bool) (a:AtS),Ea l→∀s d,dX l f' a=.inl (s,d)→IsB d:=by
  intro l
  induction l with
  |nil=>intro f' a _ s d e;cases e
  |cons p l ih=>
   obtain ⟨fl,t,v⟩:=p
   intro f' a hl s d e
   unfold dX at e
   obtain ⟨_,_,hv,hvl⟩:=hl _ List.mem_cons_self
   cases hf:f' t.toNat<;>rw [hf] at e
   ·simp only [cond_false] at e
    split at e
    ·exact ih _ _ (λp hp=>hl p (List.mem_cons_of_mem _ hp)) s d e
    ·split at e
     ·injection e with e;injection e with e1 e2;rw [←e2];exact .nil
     ·injection e with e;injection e with e1 e2;rw [←e2];exact ns hv hvl
   ·injection e with e;injection e with e1 e2;rw [←e2];exact .nil
 unfold jG
 split
 ·exact .nil
 ·rename_i e h
  obtain ⟨s,d⟩:=e
  unfold hU at h
  cases ho:jD b<;>rw [ho] at h
  ·injection h with h;injection h with h1 h2;simp only;rw [←h2];exact .nil
  ·simp only [cond_true] at h
   split at h
   ·rename_i e he
    injection h with h;subst h
    exact key _ _ _ (Al hb) s d he
   ·rename_i a f' he
    unfold lQ at h
    cases g1:f' 1<;>cases g2:f' 2<;>cases g3:f' 3<;>simp only [g1,g2,g3,cond_true,cond_false] at h<;>first | (cases h;done) | (injection h with h;injection h with e1 e2;simp only;rw [←e2];exact is1 (by decide) (by decide))
theorem SZ {b:Bs}(hb:IsB b):IsB (lW b):=by
 have hd:=SY (yT hb)
 unfold lW
 split
 ·exact .nil
 ·rename_i e h
  obtain ⟨s,d⟩:=e
  simp only
  unfold iL at h
  split at h
  ·injection h with h;injection h with _ h;rw [←h];exact .nil
  cases g1:gK (im b)<;>simp only [g1,cond_true,cond_false] at h
  ·injection h with h;injection h with _ h;rw [←h];exact .nil
  cases g2:gK (eX b)<;>simp only [g2,cond_true,cond_false] at h
  ·injection h with h;injection h with _ h;rw [←h];exact .nil
  split at h
  ·cases h
  cases g3:hZ (cI b)<;>simp only [g3,cond_true,cond_false] at h
  ·split at h
   ·injection h with h;injection h with _ h;rw [←h];exact hd
   split at h
   ·cases h
   ·injection h with h;injection h with _ h;rw [←h];exact hd
  ·split at h<;>cases h
theorem S1 {b:Bs}(pas:Int):IsB (lU b pas):=by
 have i2:IsB [bT 0,bT 4]:=⟨⟨[0,4],rfl,λy hy=>by simp at hy;omega⟩,by simp⟩
 have key:(∃s d,jC b pas=dQ s d∧IsB d)∨(∃n h i l,jC b pas=pp n h i l):=by
  unfold jC
  split
  ·exact .inl ⟨_,_,rfl,.nil⟩
  split
  ·exact .inl ⟨_,_,rfl,i2⟩
  unfold vL fU
  split
  ·exact .inl ⟨_,_,rfl,.nil⟩
  split
  ·exact .inl ⟨_,_,rfl,.nil⟩
  split
  ·exact .inl ⟨_,_,rfl,.nil⟩
  split
  ·exact .inl ⟨_,_,rfl,.nil⟩
  split
  ·exact .inl ⟨_,_,rfl,.nil⟩
  cases h:gq _ _
  ·exact .inl ⟨_,_,rfl,.nil⟩
  ·exact .inr ⟨_,_,_,_,rfl⟩
 unfold lU qo
 rcases key with ⟨s,d,h,h2⟩ | ⟨n,hh,i,l,h⟩<;>rw [h]
 ·exact h2
 ·exact .nil
theorem Wn {b:Bs}{pas:Int}(hb:IsB b):IsB (Wl b pas):=by
 have hd:=hb.drop 19
 have hz:IsB (nt b):=(hb.drop 16).take 2
 unfold Wl
 split
 ·exact .nil
 ·rename_i e h
  obtain ⟨c,s,d⟩:=e
  simp only
  unfold fh at h
  cases h1:dg b<;>rw [h1] at h<;>simp only [cond_true,cond_false] at h
  ·injection h with h;injection h with _ h;injection h with _ h;rw [←h];exact yV hb
  split at h
  ·injection h with h;injection h with _ h;injection h with _ h;rw [←h];exact .nil
  split at h
  ·injection h with h;injection h with _ h;injection h with _ h;rw [←h];exact hz
  split at h
  ·cases h2:ib (b.drop 19) pas<;>rw [h2] at h<;>simp only [cond_true,cond_false] at h
   ·injection h with h;injection h with _ h;injection h with _ h;rw [←h];exact S1 pas
   ·cases h
  split at h
  ·cases h2:iC (b.drop 19)<;>rw [h2] at h<;>simp only [cond_true,cond_false] at h
   ·injection h with h;injection h with _ h;injection h with _ h;rw [←h];exact SZ hd
   ·cases h
  split at h
  ·cases h2:jB (b.drop 19)<;>rw [h2] at h<;>simp only [cond_true,cond_false] at h
   ·injection h with h;injection h with _ h;injection h with _ h;rw [←h];exact hz
   ·cases h
  ·cases h
--bumped 32
def qw:Nat→Bs→Int→List MsgS × Bs × Option (Nat × Int × Bs)
 | 0,w,_=>([],w,none)
 |k+1,w,pas=>if w.length<19 then ([],w,none) else bif dg w then
   (if bI w>w.length then ([],w,none) else match fh (w.take (bI w).toNat) pas with
    | .inl (c,s,d)=>([],[],some (c.toNat-1,s,d))
    | .inr M=>(M::(qw k (w.drop (bI w).toNat) pas).1,(qw k (w.drop (bI w).toNat) pas).2))
  else ([],[],some (0,nu w,lT w))
def bh (w:Bs)(pas:Int):List MsgS × Bs × Option (Nat × Int × Bs):=qw (w.length+1) w pas
theorem En:∀(k m:Nat) (w:Bs) (pas:Int),w.length<k→w.length<m→qw k w pas=qw m w pas
 | 0,_,_,_,h,_=>absurd h (not_lt_zero _)
 |_+1,0,_,_,_,h=>absurd h (not_lt_zero _)
 |k+1,m+1,w,pas,h1,h2=>by
  simp only [qw]
  split
  ·rfl
  ·rename_i hl
   cases hh:dg w
   ·rfl
   ·simp only [cond_true]
    split
    ·rfl
    ·have h3:=(vQ hl hh).2.1
     have e:qw k (w.drop (bI w).toNat) pas=qw m (w.drop (bI w).toNat) pas:=En k m _ _ (by rw [length_drop];omega) (by rw [length_drop];omega)
     rw [e]
theorem dS {w:Bs}(pas:Int)(h:w.length<19):bh w pas=([],w,none):=by
 unfold bh;simp only [qw,if_pos h]
theorem rD {w:Bs}(pas:Int)(h:¬w.length<19)(h1:dg w=false):bh w pas=([],[],some (0,nu w,lT w)):=by
 unfold bh;simp only [qw,if_neg h,h1,cond_false]
theorem sQ {w:Bs}(pas:Int)(h:¬w.length<19)(h1:dg w=true)(h2:bI w>w.length):bh w pas=([],w,none):=by
 unfold bh;simp only [qw,if_neg h,h1,cond_true,if_pos h2]
theorem nw {w:Bs}{pas c s:Int}{d:Bs}(h:¬w.length<19)(h1:dg w=true)(h2:¬bI w>w.length)(h3:fh (w.take (bI w).toNat) pas=.inl (c,s,d)):bh w pas=([],[],some (c.toNat-1,s,d)):=by
 unfold bh;simp only [qw,if_neg h,h1,cond_true,if_neg h2,h3]
theorem pE {w:Bs}{pas:Int}{M:MsgS}(h:¬w.length<19)(h1:dg w=true)(h2:¬bI w>w.length)(h3:fh (w.take (bI w).toNat) pas=.inr M):bh w pas=(M::(bh (w.drop (bI w).toNat) pas).1,(bh (w.drop (bI w).toNat) pas).2):=by
 have h4:=(vQ h h1).2.1
 have e:qw w.length (w.drop (bI w).toNat) pas=bh (w.drop (bI w).toNat) pas:=En _ _ _ _ (by rw [length_drop];omega) (Nat.lt_succ_self _)
 rw [←e]
 unfold bh
 simp only [qw,if_neg h,h1,cond_true,if_neg h2,h3]
theorem Eo {w b:Bs}{n m:Nat}(h:n≤w.length):(w++b).take n=w.take n:=List.take_append_of_le_length h
theorem nO {w b:Bs}{i n:Nat}(h:i+n≤w.length):((w++b).drop i).take n=(w.drop i).take n:=by
 rw [List.drop_append_of_le_length (by omega),List.take_append_of_le_length (by rw [length_drop];omega)]
theorem S2 {w:Bs}(b:Bs)(h:¬w.length<19):lS (w++b)=lS w:=by
 have h2:¬(w++b).length<19:=by rw [length_append];omega
 have e1:ia (w++b)=ia w:=by unfold ia;rw [Eo (m:=0) (by omega)]
 have e2:io (w++b)=io w:=by unfold io de;rw [nO (by show 16+2≤_;omega)]
 have e3:nt (w++b)=nt w:=by unfold nt;rw [nO (by omega)]
 have e4:Ef (w++b)=Ef w:=by unfold Ef;rw [nO (by omega)]
 have e5:nX (w++b)=nX w:=by
  unfold nX
  congr 1
  rw [List.drop_append_of_le_length (by omega)]
  have:0<(w.drop 18).length:=by rw [length_drop];omega
  cases hc:w.drop 18 with
  |nil=>rw [hc] at this;exact absurd this (not_lt_zero _)
  |cons x l=>rfl
 rw [sN h,sN h2,e1,e2,e3,e4,e5]
theorem GQ (pas:Int)(b:Bs):∀(n:Nat) (w:Bs),w.length≤n→bh (w++b) pas=match (bh w pas).2.2 with
  |none=>((bh w pas).1++(bh ((bh w pas).2.1++b) pas).1,(bh ((bh w pas).2.1++b) pas).2)
  |some _=>bh w pas:=by
 intro n
 induction n with
 |zero=>
  intro w hw
  have hl:w.length<19:=by omega
  rw [dS pas hl];rfl
 |succ n ih=>
  intro w hw
  by_cases hl:w.length<19
  ·rw [dS pas hl];rfl
  have hP:=S2 b hl
  have hl2:¬(w++b).length<19:=by rw [length_append];omega
  have a1:dg (w++b)=dg w:=by unfold dg;rw [hP]
  have a2:bI (w++b)=bI w:=by unfold bI;rw [hP]
  have a3:nu (w++b)=nu w:=by unfold nu;rw [hP]
  have a4:lT (w++b)=lT w:=by unfold lT;rw [hP]
  cases h1:dg w
  ·rw [rD pas hl h1,rD pas hl2 (a1.trans h1),a3,a4]
  by_cases h2:bI w>w.length
  ·rw [sQ pas hl h1 h2];rfl
  have h22:¬bI (w++b)>(w++b).length:=by rw [a2,length_append];omega
  have ht:(w++b).take (bI (w++b)).toNat=w.take (bI w).toNat:=by rw [a2,Eo (m:=0) (by omega)]
  cases h3:fh (w.take (bI w).toNat) pas with
  |inl p=>
   obtain ⟨c,s,d⟩:=p
   rw [nw hl h1 h2 h3,nw hl2 (a1.trans h1) h22 (ht▸h3)]
  |inr M=>
   have h4:=(vQ hl h1).2.1
   have hd:(w++b).drop (bI (w++b)).toNat=w.drop (bI w).toNat++b:=by rw [a2,List.drop_append_of_le_length (by omega)]
   rw [pE hl2 (a1.trans h1) h22 (ht▸h3),hd,pE hl h1 h2 h3]
   have hi:=ih (w.drop (bI w).toNat) (by rw [length_drop];omega)
   rw [hi]
   cases h5:(bh (w.drop (bI w).toNat) pas).2.2<;>rfl
theorem OT {w b:Bs}{pas:Int}(h:(bh w pas).2.2=none):bh (w++b) pas=((bh w pas).1++(bh ((bh w pas).2.1++b) pas).1,(bh ((bh w pas).2.1++b) pas).2):=by
 have:=GQ pas b _ w (le_refl _)
 rw [h] at this;exact this
theorem OU {w b:Bs}{pas:Int}{f:Nat × Int × Bs}(h:(bh w pas).2.2=some f):bh (w++b) pas=bh w pas:=by
 have:=GQ pas b _ w (le_refl _)
 rw [h] at this;exact this
theorem Lo {b:Bs}{pas:Int}{M:MsgS}(hb:IsB b)(h:fh b pas=.inr M):MsWf M:=by
 have:=Wm (pas:=pas) hb
 unfold tc at this;rw [h] at this;exact this
theorem Lp {b:Bs}{pas c s:Int}{d:Bs}(hb:IsB b)(h:fh b pas=.inl (c,s,d)):IsB d:=by
 have:=Wn (pas:=pas) hb
 unfold Wl at this;rw [h] at this;exact this
theorem uH (pas:Int):∀(n:Nat) (w:Bs),w.length≤n→IsB w→IsB (bh w pas).2.1∧(bh w pas).1.length+(bh w pas).2.1.length≤w.length∧(∀M∈(bh w pas).1,MsWf M)∧(∀c s d,(bh w pas).2.2=some (c,s,d)→IsB d∧(bh w pas).2.1= []):=by
 intro n
 induction n with
 |zero=>
  intro w hw hb
  rw [dS pas (by omega)]
  exact ⟨hb,by simp,by simp,λ_ _ _ h=>by cases h⟩
 |succ n ih=>
  intro w hw hb
  by_cases hl:w.length<19
  ·rw [dS pas hl]
   exact ⟨hb,by simp,by simp,λ_ _ _ h=>by cases h⟩
  cases h1:dg w
  ·rw [rD pas hl h1]
   exact ⟨.nil,by simp,by simp,λc s d h=>by cases h;exact ⟨yV hb,rfl⟩⟩
  by_cases h2:bI w>w.length
  ·rw [sQ pas hl h1 h2]
   exact ⟨hb,by simp,by simp,λ_ _ _ h=>by cases h⟩
  cases h3:fh (w.take (bI w).toNat) pas with
  |inl p=>
   obtain ⟨c,s,d⟩:=p
   rw [nw hl h1 h2 h3]
   refine ⟨.nil,by simp,by simp,λc' s' d' h=> ?_⟩
   cases h
   exact ⟨Lp (hb.take _) h3,rfl⟩
  |inr M=>
   have h4:=(vQ hl h1).2.1
   have hi:=ih (w.drop (bI w).toNat) (by rw [length_drop];omega) (hb.drop _)
   rw [pE hl h1 h2 h3]
   refine ⟨hi.1,?_,?_,hi.2.2.2⟩
   ·have:=hi.2.1
    rw [length_drop] at this
    simp only [length_cons];omega
   ·intro m hm
    rcases mem_cons.1 hm with rfl | hm
    ·exact Lo (hb.take _) h3
    ·exact hi.2.2.1 m hm
section
variable {P:Program}{G:aV}
theorem I4 {ro:Nat}{T:VT}{t e tx:TypeId}{d x:Operand}{l:List (Nat × TV)}{inf:TypeInfo}{es:List (List TV)}{id off m:Nat}{cs:List TV}(ht:P.underlying t=some (.slice e))(hi:P.info? e=some inf)(hsl:fY (P.underlying tx)=true)
  (hs:aP G l d=.row inf.size id off m) (ho:T.objs[id]?=some (.row cs)) (hr:bK T inf.size (aP G l x)=some es) (h1:es.length≤m) (h2:off*inf.size+es.flatten.length≤cs.length) (hro:ro≤id):
  bb P G ro T (.call ⟨.builtin .copy,#[d,x],#[t,tx]⟩) l (.val (.int .i64 es.length)) {T with objs:=T.objs.set id (.row (bW cs (off*inf.size) es.flatten))}:=by
 refine .mk ?_
 have a1:bu P (.call ⟨.builtin .copy,#[d,x],#[t,tx]⟩) (aP G l)=none:=by simp [bu,dZ]
 have a2:br P T (.call ⟨.builtin .copy,#[d,x],#[t,tx]⟩) (aP G l)=none:=by simp [br,dJ,jl]
 have a4:tG P ro T t tx (.row inf.size id off m) (aP G l x)=none:=by simp [tG,ht]
 have a3:tF P ro T t tx (.row inf.size id off m) (aP G l x)=some (.val (.int .i64 es.length),{T with objs:=T.objs.set id (.row (bW cs (off*inf.size) es.flatten))}):=by
  unfold tF
  simp only [ht,hi,ho,hr,beq_refl,ble_eq_true_of_le h1,ble_eq_true_of_le h2,ble_eq_true_of_le hro,hsl,Bool.and_self,cond_true]
 simp only [gB,a1,a2,lw,hs,a4,a3]
theorem Lq {t e:TypeId}{x i:Operand}{l:List (Nat × TV)}{inf:TypeInfo}{id off n:Nat}{k:IntKind}{z:Int}(ht:P.underlying t=some (.slice e))(hi:P.info? e=some inf)
  (hx:aP G l x=.row inf.size id off n) (hz:aP G l i=.val (.int k z)) (h0:0≤z) (h1:z.toNat≤n):bc P G (.slice t x none (some i) none) l (.row inf.size id off z.toNat):=by
 refine ⟨?_⟩
 have hhi:tD n (some (aP G l i))=some z.toNat:=by simp [tD,fj,hz,h0]
 have hR:gS P t (aP G l x) none (some (aP G l i)) none=some (.row inf.size id off z.toNat):=by
  rw [hx]
  simp only [gS,ht,hi,fk,hhi,beq_refl,ble_eq_true_of_le h1,ble_eq_true_of_le (zero_le z.toNat),Bool.and_self,cond_true]
 simp [bu,jP,hR]
end
def xL:List MsgS→TV
 |[]=>.val (.slice none 0 0)
 |M::l=>.vec 15 ((M::l).map MsgS.cells) (.tail 0 (M::l).length)
def tL:List MsgS→iJ
 |[]=> []
 |M::l=> [((M::l).length,15,true)]
def kR (l:List MsgS):Prop:=∀M∈l,MsWf M
theorem Lr (l:List MsgS):(tL l).length≤1:=by cases l<;>simp [tL]
theorem Wo (l:List MsgS)(M:MsgS):xL (l++ [M])=.vec 15 ((l++ [M]).map MsgS.cells) (.tail 0 (l++ [M]).length):=by cases l<;>rfl
theorem Wp (l:List MsgS)(M:MsgS):tL (l++ [M])= [((l++ [M]).length,15,true)]:=by cases l<;>rfl
theorem gF {l:List MsgS}(h:kR l)(f g:Nat→Option Nat):bk f g (l.map MsgS.cells)=l.map MsgS.cells:=by
 induction l with
 |nil=>rfl
 |cons M l ih=>rw [map_cons,bk,ih (λm hm=>h m (List.mem_cons_of_mem _ hm)),(h M List.mem_cons_self).ren]
theorem Ep {l:List MsgS}(h:kR l)(f:Nat→Option Nat):(xL l).ren f (aA 1)=xL l:=by
 cases l with
 |nil=>rfl
 |cons M l=>simp only [xL,TV.ren,gF h,Tok.ren];rfl
theorem S3 (l:List MsgS):(tL l).take 1=tL l:=List.take_of_length_le (Lr l)
theorem sR:∃(inf:TypeInfo) (z:Value),prog.info? 65=some inf∧inf.size=15∧inf.bytes+1≤1000∧inf.zero=some z∧z.cells.size=15:=
 ⟨(prog.info? 65).getD default,((prog.info? 65).getD default).zero.getD default,by kernel_rfl,by kernel_rfl,le_of_ble_eq_true (by kernel_rfl),by kernel_rfl,by kernel_rfl⟩
theorem Wq (objs:List VO)(l:List MsgS)(M:MsgS)(h:l.length≤64000000):bb prog be 0 ⟨objs,tL l⟩ (.call ⟨.builtin .append,#[.tmp 46,.tmp 48],#[25,25]⟩) [(46,xL l),(48,.vec 15 [M.cells] .full)] (.vec 15 ((l++ [M]).map MsgS.cells) (.tail 0 (l++ [M]).length)) ⟨objs,[((l++ [M]).length,15,true)]⟩:=by
  obtain ⟨inf,z,i1,i2,i3,i4,i5⟩:=sR
  have h1:=eQ (inf:=inf) (P:=prog) (G:=be) (ro:=0) (T:=⟨objs,tL l⟩) (T1:=⟨objs,[(l.length,15,true)]⟩) (t:=25) (tx:=25) (s:=.tmp 46) (x:=.tmp 48) (l:= [(46,xL l),(48,.vec 15 [M.cells] .full)]) (es:=l.map MsgS.cells) (es2:= [M.cells]) (k:=0) (n:=l.length) (bn:=true) Tryz.underlying25 i1 i4 (by rw [i2];exact i5) (by rw [i2];decide) (by kernel_rfl)
    (by rw [i2];cases l<;>simp [aP,eO,cM,xL,tL]) (by rw [i2];rfl)
    (by have h1:=i3
        have h2:=Nat.mul_le_mul (show (l.map MsgS.cells).length+ [M.cells].length≤64000001 by simp only [length_map,length_cons,length_nil];omega) h1
        omega)
  rw [i2] at h1
  rw [show (l++ [M]).map MsgS.cells=l.map MsgS.cells++ [M.cells] by rw [List.map_append];rfl,show (l++ [M]).length=l.length+ [M.cells].length by simp]
  exact h1
def uI (id k n:Nat):TV:=bif beq k n then .vec 1 [] (.past id (0+k)) else .row 1 id (0+k) (n-k)
theorem Ls {G:aV}{x i:Operand}{l:List (Nat × TV)}{id n:Nat}{k:IntKind}{z:Int}(hx:aP G l x=.row 1 id 0 n)(hz:aP G l i=.val (.int k z))(h0:0<z)(h1:z.toNat≤n):bc prog G (.slice 22 x (some i) none none) l (uI id z.toNat n):=by
 obtain ⟨inf,i1,i2,_,_⟩:=cO
 refine ⟨?_⟩
 have hlow:fk (some (aP G l i))=some z.toNat:=by simp [fk,fj,hz,Int.le_of_lt h0]
 have hR:gS prog 22 (aP G l x) (some (aP G l i)) none none=some (uI id z.toNat n):=by
  rw [hx]
  simp only [gS,underlying22,i1,hlow,tD,i2]
  obtain ⟨w,hw⟩:∃w,z.toNat=w+1:=⟨z.toNat-1,by omega⟩
  rw [hw] at h1 ⊢
  rw [beq_refl,ble_eq_true_of_le h1,ble_eq_true_of_le (le_refl n)]
  simp only [Bool.and_self,cond_true,uI]
  cases beq (w+1) n<;>rfl
 simp [bu,jP,hR]
theorem OV {T:VT}{ds:List TV}{id k n:Nat}(ho:T.objs[id]?=some (.row ds))(hr:RwOk ds 0 n)(hk:k≤n):bK T 1 (uI id k n)=some (aC ds k (n-k)):=by
 unfold uI
 have h1:=hr.1
 cases hb:beq k n
 ·have h2:ble (k+(n-k)) ds.length=true:=ble_eq_true_of_le (by omega)
  simp only [cond_false,bK,ho,zero_add,beq_refl,h2,Bool.and_self,cond_true,mul_one,aC]
 ·obtain rfl:=Nat.eq_of_beq_eq_true hb
  rw [show aC ds k (k-k)= [] from List.eq_nil_of_length_eq_zero (by rw [iN];omega)]
  simp [bK]
theorem zh {G:aV}{x i:Operand}{l:List (Nat × TV)}{id n:Nat}{k:IntKind}{z:Int}(hx:aP G l x=.row 1 id 0 n)(hz:aP G l i=.val (.int k z))(h0:0≤z)(h1:z.toNat≤n):bc prog G (.slice 22 x none (some i) none) l (.row 1 id 0 z.toNat):=by
 obtain ⟨inf,i1,i2,_,_⟩:=cO
 have h:=Lq (P:=prog) (G:=G) (t:=22) (x:=x) (i:=i) (l:=l) (inf:=inf) (id:=id) (off:=0) (n:=n) underlying22 i1 (by rw [i2];exact hx) hz h0 h1
 rw [i2] at h
 exact h
theorem S4 {T:VT}{ds:List TV}{k n:Nat}(ho:T.objs[2]?=some (.row ds))(hr:RwOk ds 0 n)(hk:k≤n):bb prog be 0 T (.call ⟨.builtin .copy,#[.tmp 67,.tmp 73],#[22,22]⟩) [(67,.row 1 2 0 n),(73,uI 2 k n)] (.val (.int .i64 ((n-k:Nat):Int))) {T with objs:=T.objs.set 2 (.row (bW ds 0 (aC ds k (n-k)).flatten))}:=by
 obtain ⟨inf,i1,i2,_,_⟩:=cO
 have hs:IsB (aC ds k (n-k)):=(hr.sub (by have:=hr.1;omega)).is
 have h:=I4 (P:=prog) (G:=be) (ro:=0) (T:=T) (t:=22) (tx:=22) (d:=.tmp 67) (x:=.tmp 73) (l:= [(67,.row 1 2 0 n),(73,uI 2 k n)]) (inf:=inf) (es:=aC ds k (n-k)) (id:=2) (off:=0) (m:=n) (cs:=ds) underlying22 i1 (by kernel_rfl) (by rw [i2];rfl) ho (by rw [i2];exact OV ho hr hk) (by rw [iN];omega) (by rw [i2,sP hs,iN];have:=hr.1;omega) (zero_le _)
 rw [iN,i2] at h
 exact h
def mg (w:Bs)(pas:Int):Bool:=(bh w pas).2.2.isNone
def eR (w:Bs)(pas:Int):List MsgS:=(bh w pas).1
def Lt (w:Bs)(pas:Int):Nat:=(bh w pas).2.1.length
def rE (w:Bs)(pas:Int):Nat:=match (bh w pas).2.2 with
 |some p=>p.1
 |none=>0
def jg (w:Bs)(pas:Int):Int:=match (bh w pas).2.2 with
 |some p=>p.2.1
 |none=>0
def ic (w:Bs)(pas:Int):Bs:=match (bh w pas).2.2 with
 |some p=>p.2.2
 |none=> []
def FwA (ds:List TV)(lx:TV)(tl:iJ)(w:Bs)(pas:Int):Prop:=(RwOk ds 0 (Lt w pas)∧aC ds 0 (Lt w pas)=(bh w pas).2.1)∧lx=xL (eR w pas)∧tl=tL (eR w pas)
def FwB (ds:List TV)(lx:TV)(tl:iJ)(w:Bs)(pas:Int):Prop:=RwOk ds 0 0∧lx=xL (eR w pas)∧tl=tL (eR w pas)
def Wr (n:Int)(N:Nat):Prop:=0≤n∧n+N≤32000000
def FwO (σ:List TV)(ps:Array Tmp)(asg body:Code):Prop:=(pick [2,6] σ= [.ptr 1 0,.ptr 4 0]∧σ.length=57)∧ps= #[34,35]∧asg=eJ∧body=dB
structure P8 where
 ds:List TV
 N:Nat
 l:List MsgS
 n:Int
def zi (pas n0:Int)(w:Bs)(os:List VO)(tl:iJ):Prop:=∃ds:List TV,RwOk ds 0 0∧tl=tL (bh w pas).1∧match (bh w pas).2.2 with
 |none=>RwOk ds 0 (bh w pas).2.1.length∧aC ds 0 (bh w pas).2.1.length=(bh w pas).2.1∧os=(pD pas 0 0 (n0+(bh w pas).1.length) (.vec 1 [] .none) (.row 1 2 0 (bh w pas).2.1.length) (xL (bh w pas).1) ds [] .ready none).objs
 |some (c,s,d)=>os=(pD pas (ofNat (c+1)) s (n0+(bh w pas).1.length) (.vec 1 d .none) (.val (.slice none 0 0)) (xL (bh w pas).1) ds [] .done (some (.exit 0))).objs
def GR:List TV:= [.yld 5,.ptr 4 0]
def Lu (pas n0:Int)(w:Bs)(e:Exit)(vs:List TV)(T:VT):Prop:=(e=.normal∨e=.ret)∧vs=GR∧zi pas n0 w (T.objs.take 6) T.tails
def P9 (pas n0:Int)(w0:Bs)(s:P8):Prop:=RwOk s.ds 0 s.N∧kR s.l∧s.n=n0+s.l.length∧s.l.length+s.N≤w0.length∧bh w0 pas=(s.l++(bh (aC s.ds 0 s.N) pas).1,(bh (aC s.ds 0 s.N) pas).2)
noncomputable def uJ (pas:Int)(s:P8):VT:=pD pas 0 0 s.n (.vec 1 [] .none) (.row 1 2 0 s.N) (xL s.l) s.ds (tL s.l) .ready none
def FwQ (pas n0:Int)(w0:Bs)(N:Nat)(e:Exit)(vs:List TV)(os:List VO)(tl:iJ)(D:List Nat)(m:Nat):Prop:=D= []∧m=84∧vs=GR∧match e with
 | .normal=>∃s',P9 pas n0 w0 s'∧s'.N<N∧os.map (VO.ren (aA 6) (aA 1))=(uJ pas s').objs∧tl.take 1=(uJ pas s').tails
 | .exit i=>i=0∧zi pas n0 w0 os tl
 | .ret=>zi pas n0 w0 os tl
 |_=>False
theorem Lv {pas:Int}{s:P8}(hr:RwOk s.ds 0 s.N)(ha:kR s.l):(uJ pas s).objs.map (VO.ren (aA 6) (aA 1))=(uJ pas s).objs:=by
 have e:=hr.ren (aA 6) (aA 1)
 simp only [VO.ren] at e
 injection e with e
 simp only [uJ,pD,map_cons,map_nil,iq,VO.ren,ap,Ep ha,e]
 rfl
theorem OW {b:Bs}{pas:Int}(h:uG b pas=true):fh b pas=.inr (tc b pas):=by
 unfold uG at h
 unfold tc
 cases e:fh b pas with
 |inl p=>rw [e] at h;cases h
 |inr M=>rfl
theorem S5 {ds0:List TV}{N0:Nat}{pas n0:Int}(hr0:RwOk ds0 0 N0)(hn0:0≤n0)(hn1:n0+N0≤32000000)(K:KX)(hK:∀e vs T,Lu pas n0 (aC ds0 0 N0) e vs T→K e (aQ 84 [0,1] vs) T []):
  VWx prog be none 0 (aD prog iO 0) (aQ 84 [0,1] GR) (pD pas 0 0 n0 (.vec 1 [] .none) (.row 1 2 0 N0) (.val (.slice none 0 0)) ds0 [] .ready none) [] K:=by
 have hlen0:(aC ds0 0 N0).length=N0:=iN _ _ _
 refine dO (f:=iO) (id:=0) (by kernel_rfl) 84 [0,1] (λs:P8=>s.N) (λ_=>GR) (uJ pas) (P9 pas n0 (aC ds0 0 N0)) 6 1 (λs _=>⟨le_refl _,Lr s.l⟩) (Lu pas n0 (aC ds0 0 N0)) (λs hs=> ?_) ⟨ds0,N0,[],n0⟩ ⟨hr0,(λM h=>by cases h),by simp,by simp [hlen0],rfl⟩ K hK
 obtain ⟨ds,N,l,n⟩:=s
 obtain ⟨hr,ha,hn,hlen,hfd⟩:=hs
 simp only at hr ha hn hlen hfd
 have hS:bf prog be (aF [(Bq,Ei),(GJ,P7)]):=aL λp hp=>by
  rcases mem_cons.1 hp with rfl | hp;exact Lk
  obtain rfl:=mem_singleton.1 hp;exact Wa
 have hL:∀F2:jq,dd prog be (I2 999997 (λ_ _ _ _ _ _=>False,.skip) 1000006 (I1 prog be bt F2 250 (fM prog iO 6),fM prog iO 6)):=λF2=>SV (λ_ _ _ _ _ _ h=>h.elim) (λrd ro σ T D K h=>SU (C:=bt) (F2:=F2) (n:=250) (c:=fM prog iO 6) ac aa (show bf prog be bt from an) rd ro σ T D K h)
 have hw:=hr.is
 have hwl:(aC ds 0 N).length=N:=iN _ _ _
 have hrs:=hr.1
 have h0w:=hr0.2.1
 have h0N:=hr0.1
 rw [hlen0] at hlen
 generalize hW:aC ds 0 N=w at hw hwl hfd
 have hdt:aC ds 0 (bI w).toNat=aC ds 0 (bI w).toNat:=rfl
 have hv:=Zq pas n N (bI w).toNat (N-(bI w).toNat) ((N-(bI w).toNat:Nat):Int) (xL l) (uI 2 (bI w).toNat N) ((l++ [tc (w.take (bI w).toNat) pas]).map MsgS.cells) (.tail 0 (l++ [tc (w.take (bI w).toNat) pas]).length) ds (bW ds 0 (aC ds (bI w).toNat (N-(bI w).toNat)).flatten) (tL l) [((l++ [tc (w.take (bI w).toNat) pas]).length,15,true)] (FwQ pas n0 (aC ds0 0 N0) N)
 refine VWx.mono (Q:=λe σ T D=>FwQ pas n0 (aC ds0 0 N0) N e (pick [0,1] σ) (T.objs.take 6) T.tails D σ.length) (bF ac aa hS (hL _) hv ?_) (λe σ T D hq=> ?_)
 rotate_left
 ·obtain ⟨h1,h2,h3,h4⟩:=hq
  refine ⟨h1,h2,?_⟩
  cases e
  case normal=>
   obtain ⟨s',a1,a2,a3,a4⟩:=h4
   refine ⟨s',a1,a2,.inr ⟨?_,?_⟩⟩
   ·show (⟨_,_⟩:VT)=_
    rw [a3,a4]
   ·rw [h3];rfl
  case exit i=>
   obtain ⟨rfl,h4⟩:=h4
   exact ⟨.inl rfl,h3,h4⟩
  case ret=>exact ⟨.inr rfl,h3,h4⟩
  all_goals exact h4.elim
 rw [hW]
 have r0:RwOk ds 0 0:=hr.sub (by omega)
 by_cases hl:N<19
 ·have hwL:w.length<19:=by omega
  refine aO (decide_eq_false (by omega)) ⟨rfl,rfl,rfl,rfl,ds,r0,?_,?_⟩
  ·rw [hfd,dS pas hwL];simp
  ·rw [hfd,dS pas hwL]
   simp only [append_nil]
   refine ⟨hwl▸hr,by rw [hwl];exact hW,?_⟩
   rw [hwl,hn];rfl
 have hwL:¬w.length<19:=by omega
 refine aS (decide_eq_true (by omega)) ⟨⟨rfl,hr,ble_eq_true_of_le (by omega),rfl⟩,?_⟩
 refine aq (λh1=> ?_) (λh1=> ?_)
 rotate_left
 ·refine ⟨rfl,rfl,rfl,rfl,ds,r0,?_,?_⟩
  ·rw [hfd,rD pas hwL h1];simp
  ·rw [hfd,rD pas hwL h1]
   simp only [append_nil]
   rw [hn];rfl
 have h19:=vQ hwL h1
 refine aq (λh2=> ?_) (λh2=> ?_)
 ·have h3:bI w>w.length:=by have:=of_decide_eq_true h2;omega
  refine ⟨rfl,rfl,rfl,ds,r0,?_,?_⟩
  ·rw [hfd,sQ pas hwL h1 h3];simp
  ·rw [hfd,sQ pas hwL h1 h3]
   simp only [append_nil]
   refine ⟨hwl▸hr,by rw [hwl];exact hW,?_⟩
   rw [hwl,hn];rfl
 have h3:¬bI w>w.length:=by have:=of_decide_eq_false h2;omega
 have hkN:(bI w).toNat≤N:=by omega
 have hsk:aC ds 0 (bI w).toNat=w.take (bI w).toNat:=by rw [←SJ hr hkN,hW]
 have hrk:RwOk ds 0 (bI w).toNat:=hr.sub (by omega)
 refine ⟨zh rfl rfl (by omega) hkN,⟨rfl,hrk,ble_eq_true_of_le (by omega),rfl⟩,?_⟩
 rw [hsk]
 refine aq (λh4=> ?_) (λh4=> ?_)
 ·intro M hM
  have hP:=OW h4
  obtain rfl:M=tc (w.take (bI w).toNat) pas:=by
   unfold OO at hM;rw [hP] at hM;exact (Sum.inr.inj hM).symm
  have hst:=pE hwL h1 h3 hP
  obtain ⟨hrn,hsn⟩:=OQ hr hkN
  rw [hW] at hsn
  have hMw:=Lo (hw.take _) hP
  have ha2:kR (l++ [tc (w.take (bI w).toNat) pas]):=λm hm=>by
   rcases mem_append.1 hm with hm | hm
   ·exact ha m hm
   ·obtain rfl:=mem_singleton.1 hm;exact hMw
  refine ⟨rfl,Wq _ l _ (by omega),Ls rfl rfl (by omega) hkN,S4 rfl hr hkN,?_,?_⟩
  ·have h:=zh (G:=be) (x:=.tmp 79) (i:=.tmp 80) (l:= [(79,.row 1 2 0 N),(80,.val (.int .i64 ((N-(bI w).toNat:Nat):Int)))]) (id:=2) (n:=N) (k:=.i64) (z:=((N-(bI w).toNat:Nat):Int)) rfl rfl (by omega) (by omega)
   rw [toNat_natCast] at h
   exact h
  ·refine ⟨rfl,rfl,rfl,⟨bW ds 0 (aC ds (bI w).toNat (N-(bI w).toNat)).flatten,N-(bI w).toNat,l++ [tc (w.take (bI w).toNat) pas],n+1⟩,⟨hrn,ha2,?_,?_,?_⟩,by show N-(bI w).toNat<N;omega,?_,?_⟩
   ·simp only [length_append,length_cons,length_nil];omega
   ·simp only [length_append,length_cons,length_nil,hlen0];omega
   ·simp only [hsn]
    rw [hfd,hst]
    simp
   ·rw [b6 (by omega) (by omega)]
    have h:=Lv (pas:=pas) (s:=⟨bW ds 0 (aC ds (bI w).toNat (N-(bI w).toNat)).flatten,N-(bI w).toNat,l++ [tc (w.take (bI w).toNat) pas],n+1⟩) hrn ha2
    rw [←h]
    simp only [uJ,Wo]
    rfl
   ·simp only [uJ,pD,Wp];rfl
 ·intro c s d hB
  refine ⟨rfl,rfl,rfl,rfl,ds,r0,?_,?_⟩
  ·rw [hfd,nw hwL h1 h3 hB];simp
  ·rw [hfd,nw hwL h1 h3 hB]
   simp only [append_nil]
   rw [hn]
   rfl
--bumped 32
def Av:List TV:= [.dead,.dead,.ptr 1 0,.dead,.dead,.dead,.ptr 4 0]++List.replicate 50 .dead
def Lw:aW:=λro ys T K=>match T.objs with
 |[.cells [.val (.bool true),.val (.int .i64 pas),.row 1 3 0 N,.val (.int .i64 0),.val (.int .i64 0),.vec 1 [] .none,.val (.int .i64 n)],.cells [.ptr 0 0],o2,.row ds,.cells [.val (.slice none 0 0)],.cells [.ptr 0 0],o6,.loop .ready none σ ps asg body]=>((ro=0∧ys= [.yld 7,.ptr 5 0]∧T.tails= []∧RwOk ds 0 N∧Wr n N)∧FwO σ ps asg body)∧bif mg (aC ds 0 N) pas
  then ∀(ds2:List TV) (lx:TV) (tl:iJ),FwA ds2 lx tl (aC ds 0 N) pas→K (.tup []) ⟨[iq pas (.row 1 3 0 (Lt (aC ds 0 N) pas)) 0 0 (.vec 1 [] .none) (n+(eR (aC ds 0 N) pas).length),.cells [.ptr 0 0],o2,.row ds2,.cells [lx],.cells [.ptr 0 0],o6,.loop .ready none Av #[34,35] eJ dB],tl⟩
  else ∀(ds2:List TV) (lx:TV) (tl:iJ),FwB ds2 lx tl (aC ds 0 N) pas→K (.tup []) ⟨[iq pas (.val (.slice none 0 0)) (ofNat (rE (aC ds 0 N) pas+1)) (jg (aC ds 0 N) pas) (.vec 1 (ic (aC ds 0 N) pas) .none) (n+(eR (aC ds 0 N) pas).length),.cells [.ptr 0 0],o2,.row ds2,.cells [lx],.cells [.ptr 0 0],o6,.loop .done (some (.exit 0)) Av #[34,35] eJ dB],tl⟩
 |[.cells [.val (.bool true),.val (.int .i64 pas),.val (.slice none 0 0),.val (.int .i64 0),.val (.int .i64 0),.vec 1 [] .none,.val (.int .i64 n)],.cells [.ptr 0 0],o2,o3,.cells [.ptr 0 0],o5,o6]=>(ro=0∧ys= [.yld 6,.ptr 4 0])∧K (.tup []) T
 |_=>aJ 85 default ys
abbrev Er:=10
abbrev Lx:=16
theorem Zr (pas:Int)(n:Int)(a b:Bs)(tok:Tok)(Q:TV→VT→Prop):ar prog be (aF [(lY,Ll),(iO,Lw),(nS,nk)]) (aZ [(999998,.dead,none)]) 300 aN 0 rC [.ptr 0 0,.vec 1 b tok] ⟨[iq pas (.vec 1 a .none) 0 0 (.vec 1 [] .none) n],[]⟩ Q=
 ((IsB (a)∧
 (IsB (b)∧
 (@Eq (Bool) (ble (length a+length b) (32000000:Nat)) true)))∧
 (bif beq (length a+length b) (0:Nat)
 then (((@Eq (Option TV) (.some (.vec 1 (a) .none)) (.some (.vec 1 (a) .none)))∧
 ((@Eq (Option TV) (.some (.ptr 0 0)) (.some (.ptr 0 0)))∧
 ((@Eq (Option TV) (.some (.ptr 0 0)) (.some (.ptr 0 0)))∧
 True)))∧
 (((@Eq (Nat) 0 0)∧
 (@Eq (List TV) [(.yld 6),(.ptr 4 0)] [(.yld 6),(.ptr 4 0)]))∧
 (IsB []∧
 (((@Eq (Option TV) (.some (.ptr 0 0)) (.some (.ptr 0 0)))∧
 ((@Eq (Option TV) (.some (.val (.slice .none 0 0))) (.some (.val (.slice .none 0 0))))∧
 True))∧
 Q (.tup [(.val (.slice .none 0 0)),(.agg [(.val (.int .i64 0)),(.val (.int .i64 0)),(.vec 1 [] .none)])]) ⟨[(.cells [(.val (.bool true)),(.val (.int .i64 (pas))),(.val (.slice .none 0 0)),(.val (.int .i64 0)),(.val (.int .i64 0)),(.vec 1 [] .none),(.val (.int .i64 (n)))]),(.cells [(.ptr 0 0)]),(.cells [(.val (.int .i64 0)),(.val (.int .i64 0)),(.vec 1 [] .none)]),(.cells [(.val (.slice .none 0 0))]),(.cells [(.ptr 0 0)]),.gone,(.loop .exhausted .none [(.ptr 0 0),(.vec 1 (b) (tok)),(.ptr 1 0),(.val (.tuple #[])),(.val (.slice .none 0 0)),(.ptr 2 0),(.ptr 3 0),(.val (.tuple #[])),(.val (.tuple #[])),(.ptr 0 0),(.val (.bool true)),(.val (.bool false)),(.val (.bool false)),(.ptr 0 0),(.ptr 0 0),(.ptr 0 3),(.ptr 0 3),(.val (.int .i64 0)),(.val (.bool false)),(.val (.bool false)),(.val (.tuple #[])),(.val (.tuple #[])),(.ptr 0 0),(.ptr 0 0),(.ptr 0 0),(.ptr 0 2),(.vec 1 (a) .none),(.vec 1 (b) (tok)),(.vec 1 [[(.vec 1 (a) .none)],[(.vec 1 (b) (tok))]] .full),(.val (.slice .none 0 0)),(.ptr 0 0),(.ptr 0 2),(.ptr 0 0),(.fn (.func 64) [] [(.ptr 4 0)]),(.val (.tuple #[])),(.val (.tuple #[])),(.val (.tuple #[])),(.val (.tuple #[])),(.val (.tuple #[])),(.val (.tuple #[])),(.val (.tuple #[])),(.val (.tuple #[])),(.val (.tuple #[])),(.val (.tuple #[])),(.val (.tuple #[])),(.val (.tuple #[])),(.val (.tuple #[])),(.val (.tuple #[])),(.val (.tuple #[])),(.val (.tuple #[])),(.val (.tuple #[])),(.val (.tuple #[])),(.val (.tuple #[])),(.val (.tuple #[])),(.val (.tuple #[])),(.val (.tuple #[])),(.val (.tuple #[]))] #[34,35] eJ dB),(.cells [(.val (.int .i64 0)),(.val (.int .i64 0)),(.vec 1 [] .none)]),(.cells [(.val (.int .i64 0)),(.val (.int .i64 0)),(.vec 1 [] .none)])],[]⟩))))
 else (((@Eq (Option TV) (.some (.vec 1 (a) .none)) (.some (.vec 1 (a) .none)))∧
 ((@Eq (Option TV) (.some (.ptr 0 0)) (.some (.ptr 0 0)))∧
 ((@Eq (Option TV) (.some (.ptr 0 0)) (.some (.ptr 0 0)))∧
 True)))∧
 ((((@Eq (Nat) 0 0)∧
 ((@Eq (List TV) [(.yld 7),(.ptr 5 0)] [(.yld 7),(.ptr 5 0)])∧
 ((@Eq (List (Nat × Nat × Bool)) [] [])∧
 (RwOk (flatten (a++b)) 0 (length a+length b)∧
 Wr (n) (length a+length b)))))∧
 FwO [(.ptr 0 0),(.vec 1 (b) (tok)),(.ptr 1 0),(.val (.tuple #[])),(.val (.slice .none 0 0)),(.ptr 2 0),(.ptr 4 0),(.val (.tuple #[])),(.val (.tuple #[])),(.ptr 0 0),(.val (.bool true)),(.val (.bool false)),(.val (.bool false)),(.ptr 0 0),(.ptr 0 0),(.ptr 0 3),(.ptr 0 3),(.val (.int .i64 0)),(.val (.bool false)),(.val (.bool false)),(.val (.tuple #[])),(.val (.tuple #[])),(.ptr 0 0),(.ptr 0 0),(.ptr 0 0),(.ptr 0 2),(.vec 1 (a) .none),(.vec 1 (b) (tok)),(.vec 1 [[(.vec 1 (a) .none)],[(.vec 1 (b) (tok))]] .full),(.row 1 3 0 (length a+length b)),(.ptr 0 0),(.ptr 0 2),(.ptr 0 0),(.fn (.func 64) [] [(.ptr 5 0)]),(.val (.tuple #[])),(.val (.tuple #[])),(.val (.tuple #[])),(.val (.tuple #[])),(.val (.tuple #[])),(.val (.tuple #[])),(.val (.tuple #[])),(.val (.tuple #[])),(.val (.tuple #[])),(.val (.tuple #[])),(.val (.tuple #[])),(.val (.tuple #[])),(.val (.tuple #[])),(.val (.tuple #[])),(.val (.tuple #[])),(.val (.tuple #[])),(.val (.tuple #[])),(.val (.tuple #[])),(.val (.tuple #[])),(.val (.tuple #[])),(.val (.tuple #[])),(.val (.tuple #[])),(.val (.tuple #[]))] #[34,35] eJ dB)∧
 (bif mg (aC (flatten (a++b)) (0:Nat) (length a+length b)) pas
 then (∀ds2:List TV,(∀lx:TV,(∀tl:iJ,(FwA (ds2) (lx) (tl) (aC (flatten (a++b)) (0:Nat) (length a+length b)) (pas)→(IsB []∧
 (((@Eq (Option TV) (.some (.ptr 0 0)) (.some (.ptr 0 0)))∧
 ((@Eq (Option TV) (.some (lx)) (.some (lx)))∧
 True))∧
 Q (.tup [(lx),(.agg [(.val (.int .i64 0)),(.val (.int .i64 0)),(.vec 1 [] .none)])]) ⟨[(.cells [(.val (.bool true)),(.val (.int .i64 (pas))),(.row 1 3 0 (Lt (aC (flatten (a++b)) (0:Nat) (length a+length b)) pas)),(.val (.int .i64 0)),(.val (.int .i64 0)),(.vec 1 [] .none),(.val (.int .i64 (n+(↑(length (eR (aC (flatten (a++b)) (0:Nat) (length a+length b)) pas)):Int))))]),(.cells [(.ptr 0 0)]),(.cells [(.val (.int .i64 0)),(.val (.int .i64 0)),(.vec 1 [] .none)]),(.row (ds2)),(.cells [(lx)]),(.cells [(.ptr 0 0)]),.gone,(.loop .exhausted .none [.dead,.dead,(.ptr 1 0),.dead,.dead,.dead,(.ptr 4 0),.dead,.dead,.dead,.dead,.dead,.dead,.dead,.dead,.dead,.dead,.dead,.dead,.dead,.dead,.dead,.dead,.dead,.dead,.dead,.dead,.dead,.dead,.dead,.dead,.dead,.dead,.dead,.dead,.dead,.dead,.dead,.dead,.dead,.dead,.dead,.dead,.dead,.dead,.dead,.dead,.dead,.dead,.dead,.dead,.dead,.dead,.dead,.dead,.dead,.dead] #[34,35] eJ dB),(.cells [(.val (.int .i64 0)),(.val (.int .i64 0)),(.vec 1 [] .none)]),(.cells [(.val (.int .i64 0)),(.val (.int .i64 0)),(.vec 1 [] .none)])],(tl)⟩))))))
 else (∀ds2:List TV,(∀lx:TV,(∀tl:iJ,(FwB (ds2) (lx) (tl) (aC (flatten (a++b)) (0:Nat) (length a+length b)) (pas)→(IsB (ic (aC (flatten (a++b)) (0:Nat) (length a+length b)) pas)∧
 (((@Eq (Option TV) (.some (.ptr 0 0)) (.some (.ptr 0 0)))∧
 ((@Eq (Option TV) (.some (lx)) (.some (lx)))∧
 True))∧
 Q (.tup [(lx),(.agg [(.val (.int .i64 (ofNat (rE (aC (flatten (a++b)) (0:Nat) (length a+length b)) pas+(1:Nat))))),(.val (.int .i64 (jg (aC (flatten (a++b)) (0:Nat) (length a+length b)) pas))),(.vec 1 (ic (aC (flatten (a++b)) (0:Nat) (length a+length b)) pas) .none)])]) ⟨[(.cells [(.val (.bool true)),(.val (.int .i64 (pas))),(.val (.slice .none 0 0)),(.val (.int .i64 (ofNat (rE (aC (flatten (a++b)) (0:Nat) (length a+length b)) pas+(1:Nat))))),(.val (.int .i64 (jg (aC (flatten (a++b)) (0:Nat) (length a+length b)) pas))),(.vec 1 (ic (aC (flatten (a++b)) (0:Nat) (length a+length b)) pas) .none),(.val (.int .i64 (n+(↑(length (eR (aC (flatten (a++b)) (0:Nat) (length a+length b)) pas)):Int))))]),(.cells [(.ptr 0 0)]),(.cells [(.val (.int .i64 (ofNat (rE (aC (flatten (a++b)) (0:Nat) (length a+length b)) pas+(1:Nat))))),(.val (.int .i64 (jg (aC (flatten (a++b)) (0:Nat) (length a+length b)) pas))),(.vec 1 (ic (aC (flatten (a++b)) (0:Nat) (length a+length b)) pas) .none)]),(.row (ds2)),(.cells [(lx)]),(.cells [(.ptr 0 0)]),.gone,(.loop .exhausted (.some (Code.exit (0:Nat))) [.dead,.dead,(.ptr 1 0),.dead,.dead,.dead,(.ptr 4 0),.dead,.dead,.dead,.dead,.dead,.dead,.dead,.dead,.dead,.dead,.dead,.dead,.dead,.dead,.dead,.dead,.dead,.dead,.dead,.dead,.dead,.dead,.dead,.dead,.dead,.dead,.dead,.dead,.dead,.dead,.dead,.dead,.dead,.dead,.dead,.dead,.dead,.dead,.dead,.dead,.dead,.dead,.dead,.dead,.dead,.dead,.dead,.dead,.dead,.dead] #[34,35] eJ dB),(.cells [(.val (.int .i64 (ofNat (rE (aC (flatten (a++b)) (0:Nat) (length a+length b)) pas+(1:Nat))))),(.val (.int .i64 (jg (aC (flatten (a++b)) (0:Nat) (length a+length b)) pas))),(.vec 1 (ic (aC (flatten (a++b)) (0:Nat) (length a+length b)) pas) .none)]),(.cells [(.val (.int .i64 (ofNat (rE (aC (flatten (a++b)) (0:Nat) (length a+length b)) pas+(1:Nat))))),(.val (.int .i64 (jg (aC (flatten (a++b)) (0:Nat) (length a+length b)) pas))),(.vec 1 (ic (aC (flatten (a++b)) (0:Nat) (length a+length b)) pas) .none)])],(tl)⟩))))))))))):=by kernel_rfl
theorem Ws (pas s:Int)(c:Nat)(a d:Bs)(n:Int)(b:Bs)(tok:Tok)(Q:TV→VT→Prop):ar prog be (aF [(lY,Ll),(iO,Lw),(nS,nk)]) (aZ [(999998,.dead,none)]) 300 aN 0 rC [.ptr 0 0,.vec 1 b tok] ⟨[iq pas (.vec 1 a .none) (ofNat (c+1)) s (.vec 1 d .none) n],[]⟩ Q=
 (IsB (d)∧
 Q (.tup [(.val (.slice .none 0 0)),(.agg [(.val (.int .i64 (ofNat (c+(1:Nat))))),(.val (.int .i64 (s))),(.vec 1 (d) .none)])]) ⟨[(.cells [(.val (.bool true)),(.val (.int .i64 (pas))),(.vec 1 (a) .none),(.val (.int .i64 (ofNat (c+(1:Nat))))),(.val (.int .i64 (s))),(.vec 1 (d) .none),(.val (.int .i64 (n)))]),(.cells [(.ptr 0 0)]),(.cells [(.val (.int .i64 (ofNat (c+(1:Nat))))),(.val (.int .i64 (s))),(.vec 1 (d) .none)]),(.cells [(.val (.int .i64 (ofNat (c+(1:Nat))))),(.val (.int .i64 (s))),(.vec 1 (d) .none)]),(.cells [(.val (.int .i64 (ofNat (c+(1:Nat))))),(.val (.int .i64 (s))),(.vec 1 (d) .none)])],[]⟩):=by kernel_rfl
theorem Wt (pas n:Int)(Q:TV→VT→Prop):ar prog ae bt (aZ [(999998,.dead,none)]) 300 aN 0 iO [.dead,.ptr 1 0] ⟨[iq pas (.val (.slice none 0 0)) 0 0 (.vec 1 [] .none) n,.cells [.ptr 0 0]],[]⟩ Q=
Q (.tup []) ⟨[(.cells [(.val (.bool true)),(.val (.int .i64 (pas))),(.val (.slice .none 0 0)),(.val (.int .i64 0)),(.val (.int .i64 0)),(.vec 1 [] .none),(.val (.int .i64 (n)))]),(.cells [(.ptr 0 0)])],[]⟩:=by kernel_rfl
theorem Zs (T0:VT)(Po:VT→Prop)(Q:TV→VT→Prop):ar prog be bt aT 300 (ct [(0,dE 84 [0,1] [] [.yld 5,.ptr 4 0] T0 (λK=>∀T,Po T→(K .normal (aQ 84 [0,1] [.yld 5,.ptr 4 0]) T []∧K .ret (aQ 84 [0,1] [.yld 5,.ptr 4 0]) T [])),aD prog iO 0)]) 0 iO [.yld 5,.ptr 4 0] T0 Q=
 ((aD prog iO (0:Nat)=aD prog iO (0:Nat))∧
 (((@Eq (Option Nat) .none .none)∧
 ((@Eq (Nat) 0 0)∧
 ((@Eq (List Nat) [] [])∧
 (True  ∧
 ((@Eq (VT) (T0) (T0))∧
 ((@Eq (Bool) true true)∧
 (@Eq (List TV) [(.yld 5),(.ptr 4 0)] [(.yld 5),(.ptr 4 0)])))))))∧
 (∀T:VT,(Po (T)→(Q (.tup []) (T)∧
 Q (.tup []) (T)))))):=by kernel_rfl
theorem Wu (pas:Int)(Q:TV→VT→Prop):ar prog ae bt (aZ [(999998,.dead,none)]) 300 aN 0 Er [.val (.int .i64 pas)] ⟨[],[]⟩ Q=
Q (.ptr 0 0) ⟨[(.cells [(.val (.bool true)),(.val (.int .i64 (pas))),(.val (.slice .none 0 0)),(.val (.int .i64 0)),(.val (.int .i64 0)),(.val (.slice .none 0 0)),(.val (.int .i64 0))])],[]⟩:=by kernel_rfl
theorem S6 (pas n c s:Int)(x d:TV)(a:Bs)(Q:TV→VT→Prop):ar prog ae bt (aZ [(999998,.dead,none)]) 300 aN 0 Lx [.ptr 0 0] ⟨[iq pas (.vec 1 a .none) c s d n],[]⟩ Q=
Q (.val (.int .i64 ((↑(length a):Int)))) ⟨[(.cells [(.val (.bool true)),(.val (.int .i64 (pas))),(.vec 1 (a) .none),(.val (.int .i64 (c))),(.val (.int .i64 (s))),(d),(.val (.int .i64 (n)))])],[]⟩:=by kernel_rfl
--bumped 32
theorem VCx.loopLe {P:Program}{G:aV}{ro i:Nat}{f:FuncId}{xs:List TV}{T:VT}{Q:TV→VT→Prop}{st:LoopState}{pend:Option Code}{σ:List TV}{m:List (Option TV)}{ps:Array Tmp}{asg body:Code}(hi:T.objs[i]?=some (.loop st pend σ ps asg body))(hle:LEs σ m)(hro:ro≤i)
  (h:VCx P G ro f xs {T with objs:=T.objs.set i (.loop st pend (mW m) ps asg body)} Q):VCx P G ro f xs T Q:=by
 intro g w us r hG hx
 have r':=r.objLe hi rfl (o':=.loop st pend (mW m) ps asg body) rfl λb ⟨us,fn,db,h1,h2⟩=>⟨us,fn,db,h1,hle.ok h2⟩
 refine Calls.mono (h g w us r' hG hx) ?_
 rintro e w' ⟨v,x,g',T',he,hq,e',r2,hv,hf⟩
 have hat:∀j,j<ro→(T.objs.set i (.loop st pend (mW m) ps asg body))[j]?=T.objs[j]?:=λj hj=>by
  rw [getElem?_set,if_neg (by omega)]
 exact ⟨v,x,g',T',he,hq,e',r2,hv,⟨by have:=hf.len;simpa using this,λj hj hl=>(hf.same j hj (by simpa using hl)).trans (hat j hj),λj o b hj ho hl hb=>hf.heap j o b hj ((hat j hj).trans ho) hl hb⟩⟩
section
variable {P:Program}{G:aV}
theorem VCx.cellsLe {f:FuncId}{xs:List TV}{T:VT}{Q:TV→VT→Prop}(i:Nat)(h:VCx P G 0 f xs T λx T'=>∃cs cs':List TV,T'.objs[i]?=some (.cells cs)∧TVleL cs cs'∧Q x {T' with objs:=T'.objs.set i (.cells cs')}):VCx P G 0 f xs T Q:=by
 intro g w us rw0 hG hx
 refine Calls.mono (h g w us rw0 hG hx) ?_
 rintro e w' ⟨v,x,g',T',he,⟨cs,cs',h1,h2,hq⟩,e',r',hv,hfx⟩
 have r2:=r'.objLe h1 rfl (o':=.cells cs') rfl λb ⟨us,t,k1,k2,k3⟩=>⟨us,t,k1,h2.vrs k2,k3⟩
 refine ⟨v,x,g',_,he,hq,e',r2,hv,⟨?_,λi hi=>absurd hi (not_lt_zero i),λi o b hi=>absurd hi (not_lt_zero i)⟩⟩
 have:=hfx.len
 simpa using this
theorem VCx.freezeOpt {f:FuncId}{xs:List TV}{T:VT}{Q:TV→VT→Prop}(i j size:Nat)(h:VCx P G 0 f xs T λx T'=>(∃(id off n:Nat) (cs:List TV) (es:List (List TV)),T'.objs[i]?=some (.cells cs)∧cs[j]?=some (.row size id off n)∧bK T' size (.row size id off n)=some es∧Q x {(T'.kill id) with objs:=(T'.kill id).objs.set i (.cells (cs.set j (.vec size es .none)))})∨Q x T'):VCx P G 0 f xs T Q:=by
 intro g w us rw0 hG hx
 refine Calls.mono (h g w us rw0 hG hx) ?_
 rintro e w' ⟨v,x,g',T',he,hq | hq,e',r',hv,hfx⟩
 rotate_left
 ·exact ⟨v,x,g',T',he,hq,e',r',hv,hfx⟩
 obtain ⟨id,off,n,cs,es,h1,hj,h2,hq⟩:=hq
 obtain ⟨b,h3,⟨vs,t,h4,h5,h6⟩,h7⟩:=r'.obj i _ h1 rfl
 obtain ⟨u,hu,hvu⟩:=h5.at hj
 obtain ⟨g2,e2,r2,v2⟩:=oh r' h2 hvu
 have hne:id≠i:=by
  rintro rfl
  simp only [bK,h1] at h2
  cases h2
 have hi2:(T'.kill id).objs[i]?=some (.cells cs):=by
  simp only [VT.kill,getElem?_set]
  rw [if_neg hne];exact h1
 have hus:vs.set j u=vs:=by
  apply List.ext_getElem?
  intro k
  rw [getElem?_set]
  split
  ·rename_i hk;subst hk;rw [hu,if_pos (List.getElem?_eq_some_iff.1 hu).1]
  ·rfl
 have hin:∀b',g2.obj i=some b'→b'=b:=λb' hb'=>by
  have:=e2.obj i b h3
  rw [this] at hb';injection hb' with hb';exact hb'.symm
 have r3:RW g2 {(T'.kill id) with objs:=(T'.kill id).objs.set i (.cells (cs.set j (.vec size es .none)))} w':=by
  refine r2.objLeAt hi2 rfl rfl λb' hb' ⟨us',t',k1,k2,k3⟩=>⟨us',t',k1,?_,k3⟩
  rw [hin b' hb',h4] at k1
  injection k1 with k1;injection k1 with k1
  have:us'=vs:=by have:=congrArg Array.toList k1;simpa using this.symm
  subst this
  have:=k2.set j v2
  rwa [hus] at this
 refine ⟨v,x,g2,_,he,hq,e'.trans e2,r3,hv.mono e2,⟨?_,λi hi=>absurd hi (not_lt_zero i),λi o b hi=>absurd hi (not_lt_zero i)⟩⟩
 have:=hfx.len
 simp only [VT.kill,List.length_set];exact this
end
theorem TVleL.app:∀{a b c d:List TV},TVleL a b→TVleL c d→TVleL (a++c) (b++d)
 |[],[],_,_,_,h=>h
 |_::_,_::_,_,_,h,k=>⟨h.1,TVleL.app h.2 k⟩
 |[],_::_,_,_,h,_=>h.elim
 |_::_,[],_,_,h,_=>h.elim
theorem TVleL.flat {α:Type}(f g:α→List TV):∀{l:List α},(∀a∈l,TVleL (f a) (g a))→TVleL (l.map f).flatten (l.map g).flatten
 |[],_=>trivial
 |a::l,h=>by
  rw [map_cons,map_cons,flatten_cons,flatten_cons]
  exact (h a List.mem_cons_self).app (TVleL.flat f g λb hb=>h b (List.mem_cons_of_mem _ hb))
theorem TVle.rows {α:Type}(size:Nat)(f g:α→List TV){l:List α}(tok:Tok)(h:∀a∈l,TVleL (f a) (g a)):TVle (.vec size (l.map f) tok) (.vec size (l.map g) .none):=by
 intro q w u hu
 rcases hu.vec_inv with ⟨rfl,h0,h1⟩ | ⟨b,o,c,us,rfl,f1,f2,f3,f4,f5,f6,f7,f8⟩ | ⟨a,rfl,h0,h1⟩
 ·obtain rfl:l= []:=List.map_eq_nil_iff.1 h0
  exact .nil trivial
 ·have hf:=TVleL.flat f g h
  refine .mk_vec (by simp) (by simpa using f1) f2 (λe he=> ?_) trivial (hf.vrs f5) (λj hj=>f6 j (by rw [hf.at.1];exact hj)) f7 f8
  obtain ⟨a,ha,rfl⟩:=mem_map.1 he
  rw [←(h a ha).at.1]
  exact f3 _ (mem_map.2 ⟨a,ha,rfl⟩)
 ·obtain rfl:l= []:=List.map_eq_nil_iff.1 h0
  exact .odd a trivial
def OX (pas n:Int)(w:Bs)(x:TV)(T:VT):Prop:=x=.tup []∧zi pas n w T.objs T.tails
theorem S7 {l:List MsgS}(h:kR l)(f g:Nat→Option Nat)(hg:g 0=some 0):(xL l).ren f g=xL l:=by
 cases l with
 |nil=>rfl
 |cons M l=>simp only [xL,TV.ren,gF h,Tok.ren,hg]
theorem zj {cs:List TV}{n:Nat}(h:RwOk cs 0 n)(f g:Nat→Option Nat):ap f g cs=cs:=by
 have e:=h.ren f g
 simp only [VO.ren] at e
 injection e
theorem nx {w:Bs}{pas:Int}(hw:IsB w):kR (bh w pas).1:=(uH pas _ w (le_refl _) hw).2.2.1
theorem uK {w:Bs}{pas:Int}(hw:IsB w){c:Nat}{s:Int}{d:Bs}(h:(bh w pas).2.2=some (c,s,d)):IsB d:=((uH pas _ w (le_refl _) hw).2.2.2 c s d h).1
theorem Wv {ds:List TV}{N:Nat}{pas n:Int}(hr:RwOk ds 0 N)(hn:Wr n N):
  VCx prog be 0 iO GR (pD pas 0 0 n (.vec 1 [] .none) (.row 1 2 0 N) (.val (.slice none 0 0)) ds [] .ready none) (OX pas n (aC ds 0 N)):=by
 have hw:=hr.is
 refine VCx.keepQ 6 1 (le_refl _) (zero_le _) ?_
 refine ak ac aa (show bf prog be bt from an) (bA λp hp=> ?_) (Zs _ (λT=>zi pas n (aC ds 0 N) (T.objs.take 6) T.tails) _) ?_
 ·obtain rfl:=mem_singleton.1 hp
  refine b9 λK hK=>S5 hr hn.1 hn.2 K ?_
  rintro e vs T ⟨he,rfl,hT⟩
  obtain ⟨h1,h2⟩:=hK T hT
  rcases he with rfl | rfl
  ·exact h1
  ·exact h2
 ·refine ⟨rfl,⟨rfl,rfl,rfl,trivial,rfl,rfl,rfl⟩,λT hT=> ?_⟩
  have key:OX pas n (aC ds 0 N) ((TV.tup []).ren (aA 6) (aA 1)) (T.keep 6 1):=by
   refine ⟨rfl,?_⟩
   obtain ⟨ds2,h0,h1,h2⟩:=hT
   have ha:=nx (pas:=pas) hw
   refine ⟨ds2,h0,?_,?_⟩
   ·show T.tails.take 1=_
    rw [h1,S3]
   ·cases hf:(bh (aC ds 0 N) pas).2.2 with
    |none=>
     rw [hf] at h2
     obtain ⟨a1,a2,a3⟩:=h2
     refine ⟨a1,a2,?_⟩
     show (T.objs.take 6).map _=_
     rw [a3]
     have e:=zj h0 (aA 6) (aA 1)
     simp only [pD,map_cons,map_nil,iq,VO.ren,ap,Ep ha,e]
     rfl
    |some p=>
     obtain ⟨c,s,d⟩:=p
     rw [hf] at h2
     show (T.objs.take 6).map _=_
     simp only at h2
     rw [h2]
     have e:=zj h0 (aA 6) (aA 1)
     have e2:=(uK hw hf).ren (aA 6) (aA 1)
     simp only [pD,map_cons,map_nil,iq,VO.ren,ap,Ep ha,e,TV.ren,e2]
     rfl
  exact ⟨key,key⟩
theorem S8 (pas n:Int):VCx prog ae 0 iO [.dead,.ptr 1 0] ⟨[iq pas (.val (.slice none 0 0)) 0 0 (.vec 1 [] .none) n,.cells [.ptr 0 0]],[]⟩ λx T'=>x=.tup []∧T'=⟨[iq pas (.val (.slice none 0 0)) 0 0 (.vec 1 [] .none) n,.cells [.ptr 0 0]],[]⟩:=
 ak ac aa an ai (Wt pas n _) ⟨rfl,rfl⟩
def pF:List Nat:= [0,1,3,4,5,7]
theorem Ww:∀ro ys T K,Lw ro ys T K→VCx prog be ro iO ys T K:=by
 intro ro ys T K hw
 obtain ⟨objs,tails⟩:=T
 unfold Lw at hw
 split at hw
 ·rename_i pas N n o2 ds o6 σ ps asg body heq
  simp only at heq
  subst heq
  obtain ⟨⟨⟨rfl,rfl,ht,hr,hn⟩,⟨hp,hl⟩,rfl,rfl,rfl⟩,hk⟩:=hw
  simp only at ht
  subst ht
  have hw:=hr.is
  have hle:LEs σ (ni 57 [2,6] [.ptr 1 0,.ptr 4 0]):=by
   have:=my σ [2,6]
   rwa [hl,hp] at this
  have hrr:=λf g=>zj (hr.sub (o:=0) (m:=0) (by omega)) f g
  refine VCx.loopLe (i:=7) rfl hle (zero_le _) ?_
  refine (VCx.lift (xs:=GR) pF [] bQ (by decide) nodup_nil ?_ (by simp) (λ_ _=>zero_le _) rfl (T:=⟨[iq pas (.row 1 3 0 N) 0 0 (.vec 1 [] .none) n,.cells [.ptr 0 0],o2,.row ds,.cells [.val (.slice none 0 0)],.cells [.ptr 0 0],o6,.loop .ready none Av #[34,35] eJ dB],[]⟩) (Q:=OX pas n (aC ds 0 N)) ?_ ?_).mono ?_
  ·intro i hi
   simp only [pF,mem_cons,not_mem_nil,or_false] at hi
   rcases hi with rfl | rfl | rfl | rfl | rfl | rfl<;>exact ⟨_,rfl,rfl⟩
  ·have e:(⟨[iq pas (.row 1 3 0 N) 0 0 (.vec 1 [] .none) n,.cells [.ptr 0 0],o2,.row ds,.cells [.val (.slice none 0 0)],.cells [.ptr 0 0],o6,.loop .ready none Av #[34,35] eJ dB],[]⟩:VT).give pF []=pD pas 0 0 n (.vec 1 [] .none) (.row 1 2 0 N) (.val (.slice none 0 0)) ds [] .ready none:=by
    have e2:=hrr (aU pF) (aU [])
    simp only [VT.give,pF,map_cons,map_nil] at e2 ⊢
    show (⟨[_,_,VO.row (ap _ _ ds),_,_,_],[]⟩:VT)=_
    rw [e2]
    rfl
   rw [e];exact Wv hr hn
  ·rintro x T' ⟨_,ds2,_,_,h⟩
   refine ⟨?_,zero_le _⟩
   split at h
   ·obtain ⟨_,_,h⟩:=h
    rw [h];exact le_refl _
   ·rw [h];exact le_refl _
  ·rintro z T' ⟨x,T'',⟨rfl,ds2,h0,h1,h2⟩,rfl,rfl⟩
   have ha:=nx (pas:=pas) hw
   have e:=zj h0 (ba 8 pF) (ba 0 [])
   have ex:∀f,(xL (bh (aC ds 0 N) pas).1).ren f (ba 0 [])=xL (bh (aC ds 0 N) pas).1:=λf=>S7 ha f _ rfl
   obtain ⟨os,tls⟩:=T''
   simp only at h1 h2
   subst h1
   cases hf:(bh (aC ds 0 N) pas).2.2 with
   |none=>
    rw [hf] at h2
    obtain ⟨a1,a2,rfl⟩:=h2
    rw [show mg (aC ds 0 N) pas=true by unfold mg;rw [hf];rfl,cond_true] at hk
    have hk:=hk ds2 _ _ ⟨⟨a1,a2⟩,rfl,rfl⟩
    have e1:(pD pas 0 0 (n+(bh (aC ds 0 N) pas).1.length) (.vec 1 [] .none) (.row 1 2 0 (bh (aC ds 0 N) pas).2.1.length) (xL (bh (aC ds 0 N) pas).1) ds2 [] .ready none).objs.map (VO.ren (ba 8 pF) (ba 0 []))= [iq pas (.row 1 3 0 (bh (aC ds 0 N) pas).2.1.length) 0 0 (.vec 1 [] .none) (n+(bh (aC ds 0 N) pas).1.length),.cells [.ptr 0 0],.row ds2,.cells [xL (bh (aC ds 0 N) pas).1],.cells [.ptr 0 0],.loop .ready none Av #[34,35] eJ dB]:=by
     show [_,_,VO.row (ap _ _ ds2),VO.cells [(xL _).ren _ _],_,_]=_
     rw [e,ex];rfl
    change K (.tup []) ⟨cn _ pF ((pD pas 0 0 (n+(bh (aC ds 0 N) pas).1.length) (.vec 1 [] .none) (.row 1 2 0 (bh (aC ds 0 N) pas).2.1.length) (xL (bh (aC ds 0 N) pas).1) ds2 [] .ready none).objs.map (VO.ren (ba 8 pF) (ba 0 []))),_⟩
    rw [e1]
    simp only [cn,pF,List.set_cons_zero,List.set_cons_succ,append_nil,nil_append]
    exact hk
   |some p=>
    obtain ⟨c,s,d⟩:=p
    rw [hf] at h2
    simp only at h2
    subst h2
    rw [show mg (aC ds 0 N) pas=false by unfold mg;rw [hf];rfl,cond_false] at hk
    have hk:=hk ds2 _ _ ⟨h0,rfl,rfl⟩
    have ec:rE (aC ds 0 N) pas=c:=by unfold rE;rw [hf]
    have es:jg (aC ds 0 N) pas=s:=by unfold jg;rw [hf]
    have ed:ic (aC ds 0 N) pas=d:=by unfold ic;rw [hf]
    rw [ec,es,ed] at hk
    have e2:=(uK hw hf).ren (ba 8 pF) (ba 0 [])
    have e1:(pD pas (ofNat (c+1)) s (n+(bh (aC ds 0 N) pas).1.length) (.vec 1 d .none) (.val (.slice none 0 0)) (xL (bh (aC ds 0 N) pas).1) ds2 [] .done (some (.exit 0))).objs.map (VO.ren (ba 8 pF) (ba 0 []))= [iq pas (.val (.slice none 0 0)) (ofNat (c+1)) s (.vec 1 d .none) (n+(bh (aC ds 0 N) pas).1.length),.cells [.ptr 0 0],.row ds2,.cells [xL (bh (aC ds 0 N) pas).1],.cells [.ptr 0 0],.loop .done (some (.exit 0)) Av #[34,35] eJ dB]:=by
     show [VO.cells [_,_,_,_,_,.vec 1 (bk _ _ d) _,_],_,VO.row (ap _ _ ds2),VO.cells [(xL _).ren _ _],_,_]=_
     rw [e,ex,e2];rfl
    change K (.tup []) ⟨cn _ pF ((pD pas (ofNat (c+1)) s (n+(bh (aC ds 0 N) pas).1.length) (.vec 1 d .none) (.val (.slice none 0 0)) (xL (bh (aC ds 0 N) pas).1) ds2 [] .done (some (.exit 0))).objs.map (VO.ren (ba 8 pF) (ba 0 []))),_⟩
    rw [e1]
    simp only [cn,pF,List.set_cons_zero,List.set_cons_succ,append_nil,nil_append]
    exact hk
 ·rename_i pas n o2 o3 o5 o6 heq
  simp only at heq
  subst heq
  obtain ⟨⟨rfl,rfl⟩,hk⟩:=hw
  refine (VCx.lift (xs:= [.dead,.ptr 1 0]) [0,4] [] bQ (by decide) nodup_nil ?_ (by simp) (λ_ _=>zero_le _) rfl (Q:=λx T'=>x=.tup []∧T'=⟨[iq pas (.val (.slice none 0 0)) 0 0 (.vec 1 [] .none) n,.cells [.ptr 0 0]],[]⟩) (VCx.anyG (S8 pas n)) ?_).mono ?_
  ·intro i hi
   simp only [mem_cons,not_mem_nil,or_false] at hi
   rcases hi with rfl | rfl<;>exact ⟨_,rfl,rfl⟩
  ·rintro x T' ⟨_,rfl⟩
   exact ⟨le_refl _,zero_le _⟩
  ·rintro z T' ⟨x,T'',⟨rfl,rfl⟩,rfl,rfl⟩
   simp only [VT.back,map_cons,map_nil,cn,append_nil]
   exact hk
 ·exact hw.elim
def qx (w:Bs)(pas:Int):Int:=bif mg w pas then 0 else ofNat (rE w pas+1)
def ig (pas:Int)(w:Bs):VO:=iq pas (.vec 1 (bh w pas).2.1 .none) (qx w pas) (jg w pas) (.vec 1 (ic w pas) .none) ((eR w pas).length:Nat)
def wH (pas:Int)(w:Bs):List TV:= [.val (.bool true),.val (.int .i64 pas),.vec 1 (bh w pas).2.1 .none,.val (.int .i64 (qx w pas)),.val (.int .i64 (jg w pas)),.vec 1 (ic w pas) .none,.val (.int .i64 ((eR w pas).length:Nat))]
def zk (w:Bs)(pas:Int):TV:=cK (qx w pas) (jg w pas) (ic w pas)
def qO (w b:Bs)(pas:Int):List MsgS:=(eR (w++b) pas).drop (eR w pas).length
def zl (w b:Bs)(pas:Int):TV:=.tup [.vec 15 ((qO w b pas).map MsgS.cells) .none,zk (w++b) pas]
section
variable {w b:Bs}{pas:Int}
theorem zm (hw:IsB w):IsB (ic w pas):=by
 unfold ic
 split
 ·rename_i p h
  obtain ⟨c,s,d⟩:=p
  exact uK hw h
 ·exact .nil
theorem Es (hw:IsB w):IsB (bh w pas).2.1:=(uH pas _ w (le_refl _) hw).1
theorem xy (h:(bh w pas).2.2=none):ig pas w=iq pas (.vec 1 (bh w pas).2.1 .none) 0 0 (.vec 1 [] .none) ((bh w pas).1.length:Nat):=by
 simp only [ig,qx,mg,jg,ic,eR,h];rfl
theorem xz (hw:IsB w){c:Nat}{s:Int}{d:Bs}(h:(bh w pas).2.2=some (c,s,d)):ig pas w=iq pas (.vec 1 [] .none) (ofNat (c+1)) s (.vec 1 d .none) ((bh w pas).1.length:Nat):=by
 have h2:=((uH pas _ w (le_refl _) hw).2.2.2 c s d h).2
 simp only [ig,qx,mg,rE,jg,ic,eR,h,h2];rfl
theorem Et (h:(bh w pas).2.2=none):zk w pas=cK 0 0 []:=by simp only [zk,qx,mg,jg,ic,h];rfl
theorem Eu {c:Nat}{s:Int}{d:Bs}(h:(bh w pas).2.2=some (c,s,d)):zk w pas=cK (ofNat (c+1)) s d:=by simp only [zk,qx,mg,rE,jg,ic,h];rfl
theorem rF (hw:IsB w)(f g:Nat→Option Nat):(ig pas w).ren f g=ig pas w:=by
 simp only [ig,iq,VO.ren,ap,TV.ren,(zm hw).ren,(Es hw).ren,Tok.ren]
theorem Aw (hw:IsB w)(f g:Nat→Option Nat):(zk w pas).ren f g=zk w pas:=by
 simp only [zk,cK,TV.ren,ap,(zm hw).ren,Tok.ren]
theorem S9 (hw:IsB (w++b)):kR (qO w b pas):=λM hM=>nx hw M (List.mem_of_mem_drop hM)
theorem Ta (hw:IsB (w++b))(f g:Nat→Option Nat):(zl w b pas).ren f g=zl w b pas:=by
 simp only [zl,TV.ren,ap,gF (S9 hw),Aw hw,Tok.ren]
theorem Qa {l:List MsgS}(h:kR l)(f:Nat→Option Nat):TVle ((xL l).ren f (aA 0)) (.vec 15 (l.map MsgS.cells) .none):=by
 cases l with
 |nil=>exact .nil 15
 |cons M l=>simp only [xL,TV.ren,gF h,Tok.ren];exact .refl _
theorem Ev (h:IsB (w++b)):IsB w:=by
 have:=h.take w.length
 rwa [List.take_left] at this
theorem Bv (h:IsB (w++b)):IsB b:=by
 have:=h.drop w.length
 rwa [List.drop_left] at this
theorem Wx:bf prog be (aF [(lY,Ll),(iO,Lw),(nS,nk)]):=aL λp hp=>by
 rcases mem_cons.1 hp with rfl | hp;exact Wb
 rcases mem_cons.1 hp with rfl | hp;exact Ww
 obtain rfl:=mem_singleton.1 hp;exact λro ys T K h=>VCx.anyG (ql ro ys T K h)
theorem Wy {V:TV}{S:List TV}{ys:List TV}{T0:VT}(h0:T0.objs.length≤1)(ht:T0.tails.length≤0)(hV:∀f g,ap f g S=S)
  (h:VCx prog be 0 rC ys T0 λx T'=>(∃(id off n:Nat) (cs:List TV) (es:Bs),T'.objs[0]?=some (.cells cs)∧cs[2]?=some (.row 1 id off n)∧bK T' 1 (.row 1 id off n)=some es∧(0<id∧cs.set 2 (.vec 1 es .none)=S)∧TVle (x.ren (aA 1) (aA 0)) V)∨(∃cs,T'.objs[0]?=some (.cells cs)∧TVleL cs S∧TVle (x.ren (aA 1) (aA 0)) V)):
  VCx prog be 0 rC ys T0 λx T'=>x=V∧T'=⟨[.cells S],[]⟩:=by
 refine VCx.toLe (Q:=λT'=>T'=⟨[.cells S],[]⟩) (VCx.keepQ 1 0 h0 ht (VCx.cellsLe 0 (VCx.freezeOpt 0 2 1 (h.mono ?_))))
 have fin:∀T':VT,T'.objs[0]?=some (.cells S)→T'.keep 1 0=⟨[.cells S],[]⟩:=λT' h=>by
  obtain ⟨objs,tails⟩:=T'
  cases objs with
  |nil=>simp at h
  |cons o os=>
   simp only [List.getElem?_cons_zero] at h
   injection h with h
   subst h
   simp only [VT.keep,List.take_succ_cons,List.take_zero,map_cons,map_nil,VO.ren,hV]
 have set0:∀(l:List VO) (o:VO),0<l.length→(l.set 0 o)[0]?=some o:=λl o h=>by
  cases l with
  |nil=>simp at h
  |cons _ _=>rfl
 rintro x T' (⟨id,off,n,cs,es,a1,a2,a3,⟨a4,a5⟩,a6⟩ | ⟨cs,a1,a2,a3⟩)
 ·have hl:0<T'.objs.length:=(List.getElem?_eq_some_iff.1 a1).1
  refine .inl ⟨id,off,n,cs,es,a1,a2,a3,S,S,?_,TVleL.refl _,a6,fin _ ?_⟩
  ·rw [a5];exact set0 _ _ (by simpa [VT.kill] using hl)
  ·exact set0 _ _ (by simpa [VT.kill] using hl)
 ·have hl:0<T'.objs.length:=(List.getElem?_eq_some_iff.1 a1).1
  exact .inr ⟨cs,S,a1,a2,a3,fin _ (set0 _ _ hl)⟩
theorem Wz (hw:IsB (w++b))(tok:Tok):VCx prog be 0 rC [.ptr 0 0,.vec 1 b tok] ⟨[ig pas w],[]⟩ λx T'=>x=zl w b pas∧T'=⟨[ig pas (w++b)],[]⟩:=by
 have hw1:=Ev hw
 have hb:=Bv hw
 have hS:∀f g,ap f g (wH pas (w++b))=wH pas (w++b):=λf g=>by
  simp only [wH,ap,TV.ren,(zm hw).ren,(Es hw).ren,Tok.ren]
 refine Wy (S:=wH pas (w++b)) (le_refl _) (le_refl _) hS ?_
 cases hf:(bh w pas).2.2 with
 |some p=>
  obtain ⟨c,s,d⟩:=p
  have hd:=uK hw1 hf
  have hx:=OU (b:=b) hf
  have hf2:(bh (w++b) pas).2.2=some (c,s,d):=by rw [hx];exact hf
  have hS2:=xz hw hf2
  unfold iq at hS2
  change VO.cells (wH pas (w++b))=_ at hS2
  injection hS2 with hS2
  rw [xz hw1 hf,hS2]
  refine ak ac aa Wx ai (Ws pas s c [] d _ b tok _) ⟨hd,.inr ⟨_,rfl,?_,?_⟩⟩
  ·rw [hx]
   exact TVleL.refl _
  ·unfold zl
   rw [Eu hf2]
   have e:qO w b pas= []:=by unfold qO eR;rw [hx];simp
   rw [e]
   refine .tup ⟨.nil 15,?_,trivial⟩
   simp only [TV.ren,ap,hd.ren,Tok.ren]
   exact .refl _
 |none=>
  have hx:=OT (b:=b) hf
  have hlen:=(uH pas _ w (le_refl _) hw1).2.1
  have hr:=Es (pas:=pas) hw1
  rw [xy hf]
  have hsm:=hw.small
  rw [length_append] at hsm
  refine ak ac aa Wx ai (Zr pas _ (bh w pas).2.1 b tok _) ⟨⟨hr,hb,ble_eq_true_of_le (by omega)⟩,?_⟩
  have hab:IsB ((bh w pas).2.1++b):=IsB.append hr hb (by rw [length_append];omega)
  have hfl:=At hab
  rw [length_append] at hfl
  rw [hfl.2]
  have e1:qO w b pas=(bh ((bh w pas).2.1++b) pas).1:=by unfold qO eR;rw [hx];simp
  have e2:eR (w++b) pas=(bh w pas).1++(bh ((bh w pas).2.1++b) pas).1:=by unfold eR;rw [hx]
  refine aq (λc0=> ?_) (λc0=> ?_)
  ·have c0:=Nat.eq_of_beq_eq_true c0
   have er:(bh w pas).2.1= []:=List.eq_nil_of_length_eq_zero (by omega)
   have eb:b= []:=List.eq_nil_of_length_eq_zero (by omega)
   subst eb
   rw [er] at hx e1 e2
   have e0:bh ([]:Bs) pas=([],[],none):=dS pas (by simp)
   rw [append_nil,e0] at e1
   rw [append_nil,append_nil,e0,append_nil] at e2
   have hS2:=xy hf
   unfold iq at hS2
   change VO.cells (wH pas _)=_ at hS2
   injection hS2 with hS2
   refine ⟨⟨rfl,rfl,rfl,trivial⟩,⟨rfl,rfl⟩,.nil,⟨rfl,rfl,trivial⟩,.inr ⟨_,rfl,?_,?_⟩⟩
   ·rw [append_nil,hS2,er]
    exact ⟨.refl _,.refl _,.nil 1,.refl _,.refl _,.refl _,.refl _,trivial⟩
   ·unfold zl
    rw [e1,append_nil,Et hf]
    exact .tup ⟨.nil 15,.refl _,trivial⟩
  ·refine ⟨⟨rfl,rfl,rfl,trivial⟩,⟨⟨rfl,rfl,rfl,hfl.1,by omega,by omega⟩,⟨rfl,rfl⟩,rfl,rfl,rfl⟩,aq (λc1=> ?_) (λc1=> ?_)⟩
   ·rintro ds2 lx tl ⟨⟨h1,h2⟩,rfl,rfl⟩
    have hn2:(bh ((bh w pas).2.1++b) pas).2.2=none:=by
     unfold mg at c1
     cases h:(bh ((bh w pas).2.1++b) pas).2.2 with
     |none=>rfl
     |some p=>rw [h] at c1;cases c1
    have hn3:(bh (w++b) pas).2.2=none:=by rw [hx];exact hn2
    have hS2:=xy hn3
    unfold iq at hS2
    change VO.cells (wH pas _)=_ at hS2
    injection hS2 with hS2
    refine ⟨.nil,⟨rfl,rfl,trivial⟩,.inl ⟨3,0,_,_,(bh (w++b) pas).2.1,rfl,rfl,?_,⟨by decide,?_⟩,?_⟩⟩
    ·rw [show (bh (w++b) pas).2.1=(bh ((bh w pas).2.1++b) pas).2.1 by rw [hx],←h2]
     have q:=h1.1
     have q2:ble (0+Lt ((bh w pas).2.1++b) pas) ds2.length=true:=ble_eq_true_of_le q
     simp only [bK,List.getElem?_cons_zero,List.getElem?_cons_succ,beq_refl,q2,Bool.and_self,cond_true,zero_mul,mul_one,aC]
    ·rw [hS2]
     have:(((bh w pas).1.length:Nat):Int)+((eR ((bh w pas).2.1++b) pas).length:Nat)=(((bh (w++b) pas).1.length:Nat):Int):=by
      rw [hx];simp only [length_append,eR];omega
     simp only [List.set_cons_zero,List.set_cons_succ,this]
    ·unfold zl
     rw [e1,Et hn3]
     exact .tup ⟨Qa (nx hab) _,.refl _,trivial⟩
   ·rintro ds2 lx tl ⟨h1,rfl,rfl⟩
    obtain ⟨c,s,d,hn2⟩:∃(c:Nat) (s:Int) (d:Bs),(bh ((bh w pas).2.1++b) pas).2.2=some (c,s,d):=by
     unfold mg at c1
     cases h:(bh ((bh w pas).2.1++b) pas).2.2 with
     |none=>rw [h] at c1;cases c1
     |some p=>exact ⟨_,_,_,rfl⟩
    have hn3:(bh (w++b) pas).2.2=some (c,s,d):=by rw [hx];exact hn2
    have hd:=uK hab hn2
    have ec:rE ((bh w pas).2.1++b) pas=c:=by unfold rE;rw [hn2]
    have es:jg ((bh w pas).2.1++b) pas=s:=by unfold jg;rw [hn2]
    have ed:ic ((bh w pas).2.1++b) pas=d:=by unfold ic;rw [hn2]
    have hS2:=xz hw hn3
    unfold iq at hS2
    change VO.cells (wH pas _)=_ at hS2
    injection hS2 with hS2
    rw [ec,es,ed]
    refine ⟨hd,⟨rfl,rfl,trivial⟩,.inr ⟨_,rfl,?_,?_⟩⟩
    ·rw [hS2]
     have:(((bh w pas).1.length:Nat):Int)+((eR ((bh w pas).2.1++b) pas).length:Nat)=(((bh (w++b) pas).1.length:Nat):Int):=by
      rw [hx];simp only [length_append,eR];omega
     rw [this]
     exact ⟨.refl _,.refl _,.nil 1,.refl _,.refl _,.refl _,.refl _,trivial⟩
    ·unfold zl
     rw [e1,Eu hn3]
     refine .tup ⟨Qa (nx hab) _,?_,trivial⟩
     simp only [TV.ren,ap,hd.ren,Tok.ren]
     exact .refl _
end
abbrev Ly:=14
abbrev uL:=97
abbrev uM:=98
abbrev uN:=53
abbrev LA:=54
abbrev Ew:=30
def LB:List Nat:= [0,1,12,13]
def GS (l:Bs)(j:Int):List TV:= [.vec 2 l .none,.vec 2 l .none,.val (.int .i64 l.length),.val (.int .i64 j)]
def s3L (l:Bs)(c0:Code):Nat→Option (bN × Code):=ct [(0,dE 26 LB [] (GS l 0) ⟨[],[]⟩ (λK=>K .normal (aQ 26 LB (GS l l.length)) ⟨[],[]⟩ []),c0)]
def s7O (o h m:Int)(hm:Bool)(x:Bs):VO:=.cells [.val (.int .i64 o),.vec 1 x .none,.val (.int .u32 h),.val (.int .i64 m),.val (.bool hm)]
def LC (o h m:Int)(hm:Bool)(x:Bs):TV:=.agg [.val (.int .i64 o),.vec 1 x .none,.val (.int .u32 h),.val (.int .i64 m),.val (.bool hm)]
def LD:List Nat:= [2,3,43,44]
def GT (x:Bs)(j:Int):List TV:= [.ptr 0 0,.ptr 1 0,.val (.int .i64 x.length),.val (.int .i64 j)]
def LE (o h m:Int)(hm:Bool)(x:Bs):VT:=⟨[s7O o h m hm x,s7O o h m hm x],[]⟩
def s7L (o h m:Int)(hm:Bool)(x:Bs)(c0:Code):Nat→Option (bN × Code):=ct [(0,dE 59 LD [] (GT x 0) (LE o h m hm x) (λK=>K .normal (aQ 59 LD (GT x x.length)) (LE o h m hm x) []),c0)]
def LF:List Nat:= [2,3,36,37]
def LG (n h i:Int)(l:Bs):VT:=⟨[.cells [.val (.int .i64 n),.val (.int .i64 h),.val (.int .u32 i),.vec 2 l .none],.cells [.val (.int .i64 n),.val (.int .i64 h),.val (.int .u32 i),.vec 2 l .none]],[]⟩
def s8A (n h i:Int)(l:Bs):TV:=.agg [.val (.int .i64 n),.val (.int .i64 h),.val (.int .u32 i),.vec 2 l .none]
def GU (l:Bs)(j:Int):List TV:= [.ptr 0 0,.ptr 1 0,.val (.int .i64 l.length),.val (.int .i64 j)]
def s8L (n h i:Int)(l:Bs)(c0:Code):Nat→Option (bN × Code):=ct [(0,dE 71 LF [] (GU l 0) (LG n h i l) (λK=>K .normal (aQ 71 LF (GU l l.length)) (LG n h i l) []),c0)]
def Qb:aW:=λ_ ys T K=>match ys with
 |[.vec 2 l _,.vec 2 l' _]=>OS l l'∧K (.val (.bool true)) T
 |_=>aJ 83 default ys
def Qc:aW:=λ_ ys T K=>match ys with
 |[.agg l,.agg l']=>Wc l l'∧K (.val (.bool true)) T
 |_=>aJ 83 default ys
def Qd:aW:=λ_ ys T K=>match ys with
 |[.agg l,.agg l']=>Wd l l'∧K (.val (.bool true)) T
 |_=>aJ 83 default ys
def Qe:aW:=λ_ ys T K=>match ys with
 |[.agg l,.agg l']=>We l l'∧K (.val (.bool true)) T
 |_=>aJ 83 default ys
def Qf:aW:=λ_ ys T K=>match ys with
 |[.agg l,.agg l']=>Wf l l'∧K (.val (.bool true)) T
 |_=>aJ 83 default ys
def zn (m:MsgS)(x:TV):VO:=.cells [.val (.int .i64 m.k),.val (.int .i64 m.op.n),.val (.int .i64 m.op.h),.val (.int .u32 m.op.i),x,.val (.slice none 0 0),.val (.int .i64 0),.val (.slice none 0 0),.val (.int .u32 0),.val (.int .i64 0),.val (.bool false),.val (.slice none 0 0),.val (.int .i64 m.c),.val (.int .i64 m.s),.vec 1 m.d .none]
def uO:TV:=.val (.slice none 0 0)
theorem Zt (c s:Int)(d:Bs)(sb:ByteArray)(Q:TV→VT→Prop):ar prog ae bt (aZ [(20,.val (.string sb),some λT=>T),(23,.val (.string sb),some λT=>T)]) 300 aN 0 Ly [cK c s d,cK c s d] am Q=
 (bif ax eql (k6 c c)
 then (bif ax eql (k6 s s)
 then (bb prog (λ_=>.none) 0 (xf c s d c s d) (.convert 22 9 (.tmp 19)) [(19,(av d))] (Ad sb) (xf c s d c s d)∧
 (bb prog (λ_=>.none) 0 (xf c s d c s d) (.convert 22 9 (.tmp 22)) [(22,(av d))] (Ad sb) (xf c s d c s d)∧
 Q (cS (ax eql (aX (Value.string sb) (Value.string sb)))) (xf c s d c s d)))
 else Q aj (xf c s d c s d))
 else Q aj (xf c s d c s d)):=by kernel_rfl
theorem Zu (l:Bs)(Q:TV→VT→Prop):ar prog ae bt aT 300 (s3L l (aD prog uL 0)) 0 uL [.vec 2 l .none,.vec 2 l .none] am Q=
 (bif ax neq (k6 (↑(length l):Int) (↑(length l):Int))
 then Q aj am
 else ((aD prog uL (0:Nat)=aD prog uL (0:Nat))∧
 (((@Eq (Option Nat) .none .none)∧
 ((@Eq (Nat) 0 0)∧
 ((@Eq (List Nat) [] [])∧
 (True  ∧
 ((@Eq (VT) am am)∧
 ((@Eq (Bool) true true)∧
 (@Eq (List TV) [(aY l),(aY l),(ah (↑(length l):Int)),aB] [(aY l),(aY l),(ah (↑(length l):Int)),aB])))))))∧
 Q aI am))):=by kernel_rfl
theorem LH (l:Bs)(j a n:Int)(Q:Exit→List TV→VT→List Nat→Nat→Prop):vx prog ae bt (aZ [(18,.elt [.val (.int .u32 a),.val (.int .i64 n)],none),(22,.elt [.val (.int .u32 a),.val (.int .i64 n)],none)]) 300 aN none 0 (cq prog uL 0) (aQ 26 LB (GS l j)) am [] (cN LB Q)=
 (bif decide (j<(↑(length l):Int))
 then (bc prog (λ_=>.none) (.indexAddr 58 (.tmp 16) (.tmp 17)) [(16,(aY l)),(17,(ah j))] (Ac a n)∧
 (bc prog (λ_=>.none) (.indexAddr 58 (.tmp 20) (.tmp 21)) [(20,(aY l)),(21,(ah j))] (Ac a n)∧
 (bif ax neq (aX ((λvs=>Value.agg (toArray vs)) ((λx=>Value.int u32 a::x) ((λx=>Value.int i64 n::x) []))) ((λvs=>Value.agg (toArray vs)) ((λx=>Value.int u32 a::x) ((λx=>Value.int i64 n::x) []))))
 then Q .ret [(aY l),(aY l),(ah (↑(length l):Int)),(ah j)] am [] 26
 else Q .normal [(aY l),(aY l),(ah (↑(length l):Int)),(ah (wrap i64 (j+(1:Int))))] am [] 26)))
 else Q (.exit 0) [(aY l),(aY l),(ah (↑(length l):Int)),(ah j)] am [] 26):=by kernel_rfl
theorem Zv (o h m:Int)(hm:Bool)(x:Bs)(Q:TV→VT→Prop):ar prog ae bt aT 300 (s7L o h m hm x (aD prog uM 0)) 0 uM [LC o h m hm x,LC o h m hm x] am Q=
 (bif ax neq (k6 o o)
 then Q aj (j9 o x h m hm o x h m hm)
 else (bif ax neq (aX (Value.int u32 h) (Value.int u32 h))
 then Q aj (j9 o x h m hm o x h m hm)
 else (bif ax neq (k6 m m)
 then Q aj (j9 o x h m hm o x h m hm)
 else (bif ax neq (aX (Value.bool hm) (Value.bool hm))
 then Q aj (j9 o x h m hm o x h m hm)
 else (bif ax neq (k6 (↑(length x):Int) (↑(length x):Int))
 then Q aj (j9 o x h m hm o x h m hm)
 else ((aD prog uM (0:Nat)=aD prog uM (0:Nat))∧
 (((@Eq (Option Nat) .none .none)∧
 ((@Eq (Nat) 0 0)∧
 ((@Eq (List Nat) [] [])∧
 (True  ∧
 ((@Eq (VT) (j9 o x h m hm o x h m hm) (j9 o x h m hm o x h m hm))∧
 ((@Eq (Bool) true true)∧
 (@Eq (List TV) (If (↑(length x):Int)) (If (↑(length x):Int)))))))))∧
 Q aI (j9 o x h m hm o x h m hm)))))))):=by kernel_rfl
theorem LI (o h m:Int)(hm:Bool)(x:Bs)(j a:Int)(Q:Exit→List TV→VT→List Nat→Nat→Prop):vx prog ae bt (aZ [(50,.elt [.val (.int .i64 a)],none),(55,.elt [.val (.int .i64 a)],none)]) 300 aN none 0 (cq prog uM 0) (aQ 59 LD (GT x j)) (LE o h m hm x) [] (cN LD Q)=
 (bif decide (j<(↑(length x):Int))
 then (bc prog (λ_=>.none) (.indexAddr 59 (.tmp 48) (.tmp 49)) [(48,(av x)),(49,(ah j))] (sD a)∧
 (bc prog (λ_=>.none) (.indexAddr 59 (.tmp 53) (.tmp 54)) [(53,(av x)),(54,(ah j))] (sD a)∧
 (bif ax neq (k6 a a)
 then Q .ret (w9 (↑(length x):Int) j) (j9 o x h m hm o x h m hm) [] 59
 else Q .normal (w9 (↑(length x):Int) (wrap i64 (j+(1:Int)))) (j9 o x h m hm o x h m hm) [] 59)))
 else Q (.exit 0) (w9 (↑(length x):Int) j) (j9 o x h m hm o x h m hm) [] 59):=by kernel_rfl
theorem Zw (n h i:Int)(l:Bs)(Q:TV→VT→Prop):ar prog ae bt aT 300 (s8L n h i l (aD prog uN 0)) 0 uN [s8A n h i l,s8A n h i l] am Q=
 (bif ax neq (k6 n n)
 then Q aj (mB n h i l n h i l)
 else (bif ax neq (k6 h h)
 then Q aj (mB n h i l n h i l)
 else (bif ax neq (aX (Value.int u32 i) (Value.int u32 i))
 then Q aj (mB n h i l n h i l)
 else (bif ax neq (k6 (↑(length l):Int) (↑(length l):Int))
 then Q aj (mB n h i l n h i l)
 else ((aD prog uN (0:Nat)=aD prog uN (0:Nat))∧
 (((@Eq (Option Nat) .none .none)∧
 ((@Eq (Nat) 0 0)∧
 ((@Eq (List Nat) [] [])∧
 (True  ∧
 ((@Eq (VT) (mB n h i l n h i l) (mB n h i l n h i l))∧
 ((@Eq (Bool) true true)∧
 (@Eq (List TV) (If (↑(length l):Int)) (If (↑(length l):Int)))))))))∧
 Q aI (mB n h i l n h i l))))))):=by kernel_rfl
theorem LJ (n h i:Int)(l:Bs)(j c:Int)(v:Bs)(sb:ByteArray)(Q:Exit→List TV→VT→List Nat→Nat→Prop):vx prog ae bt (aZ [(43,.elt [.val (.int .i64 c),.vec 1 v .none],none),(49,.elt [.val (.int .i64 c),.vec 1 v .none],none),(57,.elt [.val (.int .i64 c),.vec 1 v .none],none),(64,.elt [.val (.int .i64 c),.vec 1 v .none],none),(60,.val (.string sb),none),(67,.val (.string sb),none)]) 300 aN none 0 (cq prog uN 0) (aQ 71 LF (GU l j)) (LG n h i l) [] (cN LF Q)=
 (bif decide (j<(↑(length l):Int))
 then (bc prog (λ_=>.none) (.indexAddr 68 (.tmp 41) (.tmp 42)) [(41,(aY l)),(42,(ah j))] (sA c v)∧
 (bc prog (λ_=>.none) (.indexAddr 68 (.tmp 47) (.tmp 48)) [(47,(aY l)),(48,(ah j))] (sA c v)∧
 (bif ax neq (k6 c c)
 then Q .ret (w9 (↑(length l):Int) j) (mB n h i l n h i l) [] 71
 else (bc prog (λ_=>.none) (.indexAddr 68 (.tmp 55) (.tmp 56)) [(55,(aY l)),(56,(ah j))] (sA c v)∧
 (BY prog (mB n h i l n h i l) 22 9 (av v) (Ad sb)∧
 (bc prog (λ_=>.none) (.indexAddr 68 (.tmp 62) (.tmp 63)) [(62,(aY l)),(63,(ah j))] (sA c v)∧
 (BY prog (mB n h i l n h i l) 22 9 (av v) (Ad sb)∧
 (bif ax neq (aX (Value.string sb) (Value.string sb))
 then Q .ret (w9 (↑(length l):Int) j) (mB n h i l n h i l) [] 71
 else Q .normal (w9 (↑(length l):Int) (wrap i64 (j+(1:Int)))) (mB n h i l n h i l) [] 71))))))))
 else Q (.exit 0) (w9 (↑(length l):Int) j) (mB n h i l n h i l) [] 71):=by kernel_rfl
theorem Zx (u:UpS)(Q:TV→VT→Prop):ar prog ae (aF [(uL,Qb),(uM,Qc)]) aT 300 aN 0 LA [.agg u.cells,.agg u.cells] am Q=
 (OS (UpS.w u) (UpS.w u)∧
 (OS (UpS.n u) (UpS.n u)∧
 (Wc (ub (UpS.o u) (UpS.x u) (UpS.h u) (UpS.m u) (UpS.hm u)) (ub (UpS.o u) (UpS.x u) (UpS.h u) (UpS.m u) (UpS.hm u))∧
 Q aI (Ie (UpS.w u) (UpS.o u) (UpS.x u) (UpS.h u) (UpS.m u) (UpS.hm u) (UpS.n u) (UpS.w u) (UpS.o u) (UpS.x u) (UpS.h u) (UpS.m u) (UpS.hm u) (UpS.n u))))):=by kernel_rfl
abbrev jh (m:MsgS):VO:=(t6 (MsgS.k m) (OpS.n (MsgS.op m)) (OpS.h (MsgS.op m)) (OpS.i (MsgS.op m)) (OpS.l (MsgS.op m)) (UpS.w (MsgS.u m)) (UpS.o (MsgS.u m)) (UpS.x (MsgS.u m)) (UpS.h (MsgS.u m)) (UpS.m (MsgS.u m)) (UpS.hm (MsgS.u m)) (UpS.n (MsgS.u m)) (MsgS.c m) (MsgS.s m) (MsgS.d m))
abbrev Qg (m:MsgS):List TV:=(t9 (UpS.w (MsgS.u m)) (UpS.o (MsgS.u m)) (UpS.x (MsgS.u m)) (UpS.h (MsgS.u m)) (UpS.m (MsgS.u m)) (UpS.hm (MsgS.u m)) (UpS.n (MsgS.u m)))
abbrev Qh (m:MsgS):List TV:=(w8 (OpS.n (MsgS.op m)) (OpS.h (MsgS.op m)) (OpS.i (MsgS.op m)) (OpS.l (MsgS.op m)))
theorem WA (m:MsgS)(Q:TV→VT→Prop):ar prog ae (aF [(uN,Qd),(LA,Qe),(Ly,Qf)]) aT 300 aN 0 Ew [.agg m.cells,.agg m.cells] am Q=
 (bif ax eql (k6 (MsgS.k m) (MsgS.k m))
 then (Wd (Qh m) (Qh m)∧
 (We (Qg m) (Qg m)∧
 (Wf (t8 (MsgS.c m) (MsgS.s m) (MsgS.d m)) (t8 (MsgS.c m) (MsgS.s m) (MsgS.d m))∧
 Q aI ⟨[(jh m),(jh m)],[]⟩)))
 else Q aj ⟨[(jh m),(jh m)],[]⟩):=by kernel_rfl
theorem GV {d:Bs}(hd:IsB d)(T:VT):gU prog T 22 9 (.vec 1 d .none)=some (.val (.string (mH d))):=by
 obtain ⟨⟨l,rfl,_⟩,_⟩:=hd
 have hr:bK T 1 (.vec 1 (bV l) .none)=some (bV l):=by simp [bK]
 simp only [gU,underlying22,Tryz.underlying9,Tryz.underlying5,hr,ou,Option.map_some,mH,getD_some]
theorem Ex {d:Bs}(hd:IsB d)(T:VT):BY prog T 22 9 (.vec 1 d .none) (.val (.string (mH d))):=.mk rfl (GV hd T)
theorem ow {ro:Nat}{T:VT}{a:Operand}{l:List (Nat × TV)}{d:Bs}(hd:IsB d)(ha:aP ae l a=.vec 1 d .none):bb prog ae ro T (.convert 22 9 a) l (.val (.string (mH d))) T:=by
 refine .mk ?_
 have h1:bu prog (.convert 22 9 a) (aP ae l)=none:=by simp [bu,dZ,ha,dD]
 have h2:br prog T (.convert 22 9 a) (aP ae l)=some (.val (.string (mH d))):=by simp only [br,ha,GV hd]
 simp only [gB,h1,h2]
theorem WB (c s:Int){d:Bs}(hd:IsB d):VCx prog ae 0 Ly [cK c s d,cK c s d] ⟨[],[]⟩ λx T'=>x=.val (.bool true)∧T'=⟨[],[]⟩:=by
 refine VCx.keepQ 0 0 (le_refl _) (le_refl _) (ak ac aa an ai (Zt c s d (mH d) _) ?_)
 refine aS (uD _ _) (aS (uD _ _) ⟨ow hd rfl,ow hd rfl,?_,rfl⟩)
 rw [aa5];rfl
theorem Ey {x i:Operand}{l:List (Nat × TV)}{es:Bs}{tok:Tok}{k:IntKind}{z:Int}{cs:List TV}(hx:aP ae l x=.vec 2 es tok)(hz:aP ae l i=.val (.int k z))(h0:0≤z)(he:es[z.toNat]?=some cs):bc prog ae (.indexAddr 58 x i) l (.elt cs):=by
 obtain ⟨inf,i1,i2,i3,i4⟩:=pn
 exact dy (inf:=inf) Tryz.underlying58 i1 (by rw [i2];exact hx) hz h0 he
theorem Tb {l:Bs}(hl:PxWf l):dd prog ae (s3L l (aD prog uL 0)):=bA λp hp=>by
 obtain rfl:=mem_singleton.1 hp
 obtain ⟨ps,rfl,hn⟩:=hl
 refine b9 λK hK=>rB (f:=uL) (id:=0) (by kernel_rfl) 26 LB (GS (ps.map cP)) ⟨[],[]⟩ ps.length (λe vs T=>e=.normal∧vs=GS (ps.map cP) (ps.map cP).length∧T=⟨[],[]⟩) (λj hj=> ?_) K (λe vs T ⟨h1,h2,h3⟩=>by subst h1 h2 h3;exact hK)
 by_cases hlt:j<ps.length
 ·have hat:(ps.map cP)[((j:Nat):Int).toNat]?=some (cP ps[j]):=by rw [toNat_natCast,getElem?_map,getElem?_eq_getElem hlt];rfl
  refine bF ac aa an ai (LH (ps.map cP) j ps[j].1 ps[j].2 _) ?_
  refine aS (decide_eq_true (by rw [length_map];omega)) ⟨Ey rfl rfl (by omega) hat,Ey rfl rfl (by omega) hat,aO (Zp [.int .u32 ps[j].1,.int .i64 ps[j].2] (λv hv=>by simp only [mem_cons,not_mem_nil,or_false] at hv;rcases hv with rfl | rfl<;>exact IU _ _)) ?_⟩
  exact ⟨rfl,rfl,hlt,.inl ⟨rfl,by rw [gO hlt hn];rfl⟩⟩
 ·have hj2:j=ps.length:=by omega
  refine bF ac aa an ai (LH (ps.map cP) j 0 0 _) ?_
  exact aO (decide_eq_false (by rw [length_map];omega)) ⟨rfl,rfl,rfl,by rw [hj2];simp only [GS,length_map],rfl⟩
theorem WC {l:Bs}(hl:PxWf l):VCx prog ae 0 uL [.vec 2 l .none,.vec 2 l .none] ⟨[],[]⟩ λx T'=>x=.val (.bool true)∧T'=⟨[],[]⟩:=by
 refine VCx.keepQ 0 0 (le_refl _) (le_refl _) (ak ac aa an (Tb hl) (Zu l _) ?_)
 exact aO (iM _ _) ⟨rfl,⟨rfl,rfl,rfl,trivial,rfl,rfl,rfl⟩,rfl,rfl⟩
theorem Tc (o h m:Int)(hm:Bool){x:Bs}(hx:IvWf x):dd prog ae (s7L o h m hm x (aD prog uM 0)):=bA λp hp=>by
 obtain rfl:=mem_singleton.1 hp
 obtain ⟨ps,rfl,hn⟩:=hx
 refine b9 λK hK=>rB (f:=uM) (id:=0) (by kernel_rfl) 59 LD (GT (iV ps)) (LE o h m hm (iV ps)) ps.length (λe vs T=>e=.normal∧vs=GT (iV ps) (iV ps).length∧T=LE o h m hm (iV ps)) (λj hj=> ?_) K (λe vs T ⟨h1,h2,h3⟩=>by subst h1 h2 h3;exact hK)
 by_cases hlt:j<ps.length
 ·have hat:(iV ps)[((j:Nat):Int).toNat]?=some (iT ps[j]):=by rw [toNat_natCast,iV,getElem?_map,getElem?_eq_getElem hlt];rfl
  refine bF ac aa an ai (LI o h m hm (iV ps) j ps[j] _) ?_
  refine aS (decide_eq_true (by rw [dH];omega)) ⟨kO rfl rfl (by omega) hat,kO rfl rfl (by omega) hat,aO (iM _ _) ?_⟩
  exact ⟨rfl,rfl,hlt,.inl ⟨rfl,by rw [gO hlt hn];rfl⟩⟩
 ·have hj2:j=ps.length:=by omega
  refine bF ac aa an ai (LI o h m hm (iV ps) j 0 _) ?_
  exact aO (decide_eq_false (by rw [dH];omega)) ⟨rfl,rfl,rfl,by rw [hj2];simp only [GT,dH],rfl⟩
theorem WD (o h m:Int)(hm:Bool){x:Bs}(hx:IvWf x):VCx prog ae 0 uM [LC o h m hm x,LC o h m hm x] ⟨[],[]⟩ λy T'=>y=.val (.bool true)∧T'=⟨[],[]⟩:=by
 refine VCx.keepQ 0 0 (le_refl _) (le_refl _) (ak ac aa an (Tc o h m hm hx) (Zv o h m hm x _) ?_)
 exact aO (iM _ _) (aO (iM _ _) (aO (iM _ _) (aO (SG _) (aO (iM _ _) ⟨rfl,⟨rfl,rfl,rfl,trivial,rfl,rfl,rfl⟩,rfl,rfl⟩))))
theorem Ez:∃inf:TypeInfo,prog.info? 102=some inf∧inf.size=2∧inf.bytes+1≤1000∧inf.zero=some (.agg #[.int .i64 0,.slice none 0 0]):=
 ⟨(prog.info? 102).getD default,by kernel_rfl,by kernel_rfl,le_of_ble_eq_true (by kernel_rfl),by kernel_rfl⟩
theorem sS {x i:Operand}{l:List (Nat × TV)}{es:Bs}{tok:Tok}{k:IntKind}{z:Int}{cs:List TV}(hx:aP ae l x=.vec 2 es tok)(hz:aP ae l i=.val (.int k z))(h0:0≤z)(he:es[z.toNat]?=some cs):bc prog ae (.indexAddr 68 x i) l (.elt cs):=by
 obtain ⟨inf,i1,i2,i3,i4⟩:=Ez
 exact dy (inf:=inf) Tryz.underlying68 i1 (by rw [i2];exact hx) hz h0 he
theorem pG {x i:Operand}{l:List (Nat × TV)}{es:Bs}{tok:Tok}{k:IntKind}{z:Int}{cs:List TV}(hx:aP ae l x=.vec 2 es tok)(hz:aP ae l i=.val (.int k z))(h0:0≤z)(he:es[z.toNat]?=some cs):bc prog ae (.indexAddr 55 x i) l (.elt cs):=by
 obtain ⟨inf,i1,i2,i3,i4⟩:=DO
 exact dy (inf:=inf) Tryz.underlying55 i1 (by rw [i2];exact hx) hz h0 he
theorem Td (n h i:Int){l:Bs}(hl:CpWf l):dd prog ae (s8L n h i l (aD prog uN 0)):=bA λp hp=>by
 obtain rfl:=mem_singleton.1 hp
 obtain ⟨ps,rfl,hB,hn⟩:=hl
 refine b9 λK hK=>rB (f:=uN) (id:=0) (by kernel_rfl) 71 LF (GU (ps.map bU)) (LG n h i (ps.map bU)) ps.length (λe vs T=>e=.normal∧vs=GU (ps.map bU) (ps.map bU).length∧T=LG n h i (ps.map bU)) (λj hj=> ?_) K (λe vs T ⟨h1,h2,h3⟩=>by subst h1 h2 h3;exact hK)
 by_cases hlt:j<ps.length
 ·have hat:(ps.map bU)[((j:Nat):Int).toNat]?=some (bU ps[j]):=by rw [toNat_natCast,getElem?_map,getElem?_eq_getElem hlt];rfl
  have hv:IsB ps[j].2:=hB _ (List.getElem_mem hlt)
  refine bF ac aa an ai (LJ n h i (ps.map bU) j ps[j].1 ps[j].2 (mH ps[j].2) _) ?_
  refine aS (decide_eq_true (by rw [length_map];omega)) ⟨sS rfl rfl (by omega) hat,sS rfl rfl (by omega) hat,aO (iM _ _) ⟨sS rfl rfl (by omega) hat,Ex hv _,sS rfl rfl (by omega) hat,Ex hv _,aO (aa6 _) ?_⟩⟩
  exact ⟨rfl,rfl,hlt,.inl ⟨rfl,by rw [gO hlt hn];rfl⟩⟩
 ·have hj2:j=ps.length:=by omega
  refine bF ac aa an ai (LJ n h i (ps.map bU) j 0 [] (mH []) _) ?_
  exact aO (decide_eq_false (by rw [length_map];omega)) ⟨rfl,rfl,rfl,by rw [hj2];simp only [GU,length_map],rfl⟩
theorem WE {o:OpS}(ho:OpWf o):VCx prog ae 0 uN [.agg o.cells,.agg o.cells] ⟨[],[]⟩ λy T'=>y=.val (.bool true)∧T'=⟨[],[]⟩:=by
 refine VCx.keepQ 0 0 (le_refl _) (le_refl _) (ak ac aa an (Td o.n o.h o.i ho) (Zw o.n o.h o.i o.l _) ?_)
 exact aO (iM _ _) (aO (iM _ _) (aO (iM _ _) (aO (iM _ _) ⟨rfl,⟨rfl,rfl,rfl,trivial,rfl,rfl,rfl⟩,rfl,rfl⟩)))
theorem WF {G:aV}(hG:dt G):∀ro ys T K,Qb ro ys T K→VCx prog G ro uL ys T K:=by
 intro ro ys T K hw
 unfold Qb at hw
 split at hw
 ·rename_i l tok l' tok'
  obtain ⟨⟨rfl,hl⟩,hk⟩:=hw
  exact VCx.loosePure hG (VCx.anyG (WC hl)) (by simp [cj]) (by simp [ap,TV.ren,hl.ren,Tok.ren]) (λ_ _=>rfl) hk
 ·exact hw.elim
theorem WG {G:aV}(hG:dt G):∀ro ys T K,Qc ro ys T K→VCx prog G ro uM ys T K:=by
 intro ro ys T K hw
 unfold Qc at hw
 split at hw
 ·obtain ⟨⟨rfl,o,h,m,hm,x,hx,rfl⟩,hk⟩:=hw
  exact VCx.liftPure hG (VCx.anyG (WD o h m hm hx)) (by simp [ap,TV.ren,hx.ren,Tok.ren,LC]) (λ_ _=>rfl) hk
 ·exact hw.elim
theorem WH {G:aV}(hG:dt G):∀ro ys T K,Qd ro ys T K→VCx prog G ro uN ys T K:=by
 intro ro ys T K hw
 unfold Qd at hw
 split at hw
 ·obtain ⟨⟨rfl,o,ho,rfl⟩,hk⟩:=hw
  exact VCx.liftPure hG (VCx.anyG (WE ho)) (by simp [ap,TV.ren,ho.ren]) (λ_ _=>rfl) hk
 ·exact hw.elim
theorem WI {G:aV}(hG:dt G):∀ro ys T K,Qf ro ys T K→VCx prog G ro Ly ys T K:=by
 intro ro ys T K hw
 unfold Qf at hw
 split at hw
 ·obtain ⟨⟨rfl,c,s,d,hd,rfl⟩,hk⟩:=hw
  exact VCx.liftPure hG (VCx.anyG (WB c s hd)) (by simp [ap,TV.ren,hd.ren,Tok.ren,cK]) (λ_ _=>rfl) hk
 ·exact hw.elim
theorem WJ {u:UpS}(hu:UpWf u):VCx prog ae 0 LA [.agg u.cells,.agg u.cells] ⟨[],[]⟩ λy T'=>y=.val (.bool true)∧T'=⟨[],[]⟩:=by
 have hS:bf prog ae (aF [(uL,Qb),(uM,Qc)]):=aL λp hp=>by
  rcases mem_cons.1 hp with rfl | hp;exact WF au
  obtain rfl:=mem_singleton.1 hp;exact WG au
 refine VCx.keepQ 0 0 (le_refl _) (le_refl _) (ak ac aa hS ai (Zx u _) ?_)
 exact ⟨⟨rfl,hu.1⟩,⟨rfl,hu.2.1⟩,⟨rfl,_,_,_,_,_,hu.2.2,rfl⟩,rfl,rfl⟩
theorem WK {G:aV}(hG:dt G):∀ro ys T K,Qe ro ys T K→VCx prog G ro LA ys T K:=by
 intro ro ys T K hw
 unfold Qe at hw
 split at hw
 ·obtain ⟨⟨rfl,u,hu,rfl⟩,hk⟩:=hw
  exact VCx.liftPure hG (VCx.anyG (WJ hu)) (by simp [ap,TV.ren,hu.ren]) (λ_ _=>rfl) hk
 ·exact hw.elim
theorem Te {m:MsgS}(hm:MsWf m):VCx prog ae 0 Ew [.agg m.cells,.agg m.cells] ⟨[],[]⟩ λy T'=>y=.val (.bool true)∧T'=⟨[],[]⟩:=by
 have hS:bf prog ae (aF [(uN,Qd),(LA,Qe),(Ly,Qf)]):=aL λp hp=>by
  rcases mem_cons.1 hp with rfl | hp;exact WH au
  rcases mem_cons.1 hp with rfl | hp;exact WK au
  obtain rfl:=mem_singleton.1 hp;exact WI au
 refine VCx.keepQ 0 0 (le_refl _) (le_refl _) (ak ac aa hS ai (WA m _) ?_)
 exact aS (uD _ _) ⟨⟨rfl,m.op,hm.1,rfl⟩,⟨rfl,m.u,hm.2.1,rfl⟩,⟨rfl,_,_,_,hm.2.2,rfl⟩,rfl,rfl⟩
theorem EA {ro:Nat}{T T1:VT}{s x:Operand}{l:List (Nat × TV)}{es es2:List (List TV)}{k n:Nat}{bn:Bool}(hs:cM T 2 (aP ae l s)=some (es,k,n,bn,T1))(hx:fP 2 (aP ae l x)=some es2)(hb:es.length+es2.length≤64000001):
    bb prog ae ro T (.call ⟨.builtin .append,#[s,x],#[68,68]⟩) l (.vec 2 (es++es2) (.tail k (n+es2.length))) {T1 with tails:=T1.tails.set k (n+es2.length,2,bn)}:=by
  obtain ⟨inf,i1,i2,i3,i4⟩:=Ez
  have h:=eQ (inf:=inf) (P:=prog) (G:=ae) (ro:=ro) (T:=T) (T1:=T1) (t:=68) (tx:=68) (s:=s) (x:=x) (l:=l) (es:=es) (es2:=es2) (k:=k) (n:=n) (bn:=bn) Tryz.underlying68 i1 i4 (by rw [i2];rfl) (by rw [i2];decide) (by kernel_rfl) (by rw [i2];exact hs) (by rw [i2];exact hx)
    (by have h1:=i3
        have h2:=Nat.mul_le_mul hb h1
        omega)
  rw [i2] at h
  exact h
--bumped 32
end Go.Proofs.YtogbdjlelkepcaaGreatDoor