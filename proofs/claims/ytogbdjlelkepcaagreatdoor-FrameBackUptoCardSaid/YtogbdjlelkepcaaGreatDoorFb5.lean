/-Part 5 of the proof of frameBackUptoCard_holds:MsV,Ms8,Ms9 ... No condition. -/
import Derived.Deep.Slices
import Derived.ProofKit
import Derived.OpenShut
import Derived.Lib.SmallJoins
import Derived.Lib.LaidTab
import Derived.LaidHandle
import Derived.ChangeVars
import Derived.JoinedOf
import Derived.Stop.Joined
import Derived.Test.YtogbdjlelkepcaaGreatDoorFb1
import Derived.Test.YtogbdjlelkepcaaGreatDoorFb2
import Derived.Test.YtogbdjlelkepcaaGreatDoorFb3
import Derived.Test.YtogbdjlelkepcaaGreatDoorFb4
set_option maxRecDepth 100000
namespace Go.Proofs.YtogbdjlelkepcaaGreatDoor
open Go.RowKit
open Go.BinOp (eql neq)
open _root_.BitVec (ofInt toNat)
open _root_.Int (fdiv)
open Go.IntKind (i64 signed u32 u64 u8 wrap)
open _root_.List (getElem?_eq_getElem getElem?_map length length_append length_cons length_map length_nil length_take map_append map_cons map_nil mem_append mem_cons mem_cons_self mem_singleton not_mem_nil take_succ_cons take_zero)
open _root_.Nat (beq beq_refl ble le_refl le_trans not_lt_zero zero_add zero_le)
open _root_.Option (isSome_none isSome_some)
open Go.Proofs.Tryz (prog)
open Go.Value (oneCell')
structure Oj where
 b:Bs
 a:Int
 e:Int
 acc:List (Int × Bs)
def Gk (b0:Bs)(e0:Int)(e:Exit)(vs:List TV)(T:VT):Prop:=
 (∃(l:List (Int × Bs)) (bz:Bs) (az ez:Int),qm b0 e0=.ok l∧e=.normal∧vs=mD (l.map bU) 0∧T=⟨[aM bz az ez],[(l.length,2,true)]⟩)∨
 (∃(s:Int) (Lz bz bY:Bs) (az ez ay ey:Int),qm b0 e0=.error s∧e=.ret∧vs=mD Lz s∧T=⟨[aM bz az ez,aM bY ay ey],[(Lz.length,2,true)]⟩)
theorem yJ {b:Bs}{e:Int}{l:List (Int × Bs)}(h:qm b e=.ok l):gq b e=true∧fV b e=l.map bU:=by
 unfold gq fV;rw [h];exact ⟨rfl,rfl⟩
theorem vK {b:Bs}{e s:Int}(h:qm b e=.error s):gq b e=false∧fV b e= []∧jZ b e=s:=by
 unfold gq fV jZ;rw [h];exact ⟨rfl,rfl,rfl⟩
theorem Iy {b0:Bs}{e0:Int}{K:KX}(hK:Og (fV b0 e0) (jZ b0 e0) (gq b0 e0) K){e:Exit}{vs:List TV}{T:VT}(h:Gk b0 e0 e vs T):K e (aQ 37 ui vs) T []:=by
 rcases h with ⟨l,bz,az,ez,h1,rfl,rfl,rfl⟩ | ⟨s,Lz,bz,bY,az,ez,ay,ey,h1,rfl,rfl,rfl⟩
 ·obtain ⟨h2,h3⟩:=yJ h1
  have:=hK bz [] [] az ez 0 0
  simp only [h2,cond_true,h3,length_map] at this
  exact this
 ·obtain ⟨h2,_,h3⟩:=vK h1
  have:=hK bz Lz bY az ez ay ey
  simp only [h2,cond_false,h3] at this
  exact this
theorem Kx {b0:Bs}(h0:IsB b0)(a0 e0:Int)(K:KX)(hK:Og (fV b0 e0) (jZ b0 e0) (gq b0 e0) K):VWx prog ae none 0 (aD prog nI 0) (aQ 37 ui (mD [] 0)) ⟨[aM b0 a0 e0],[(0,2,true)]⟩ [] K:=by
 let sl:Oj→List TV:=λs=>mD (s.acc.map bU) 0
 let TT:Oj→VT:=λs=>⟨[aM s.b s.a s.e],[(s.acc.length,2,true)]⟩
 refine dO (f:=nI) (id:=0) (by kernel_rfl) 37 ui (λs:Oj=>s.b.length) sl TT (λs=>IsB s.b∧AllB s.acc∧s.acc.length+s.b.length≤b0.length∧ke (s.b.length+1) s.b s.e s.acc=qm b0 e0) 1 1 (λ_ _=>⟨le_refl _,le_refl _⟩)
  (Gk b0 e0) (λs hs=> ?_) ⟨b0,a0,e0,[]⟩ ⟨h0,.nil,by simp,rfl⟩ K (λe vs T h=>Iy hK h)
 obtain ⟨b,a,e,acc⟩:=s
 obtain ⟨hb,ha,hlen,hgo⟩:=hs
 have hsm:=h0.small
 simp only at hb ha hlen hgo
 have hS:bf prog ae (aF [(kK,nR),(i7,me .i64 1),(Is,Ci),(jy,mc),(nH,Iw)]):=aL λp hp=>by
  rcases mem_cons.1 hp with rfl | hp;exact pj
  rcases mem_cons.1 hp with rfl | hp;exact λro ys T K h=>rt _ _ _ _ (np h)
  rcases mem_cons.1 hp with rfl | hp;exact λro ys T K h=>UY _ _ _ _ (Of h)
  rcases mem_cons.1 hp with rfl | hp;exact ru
  obtain rfl:=mem_singleton.1 hp;exact Sc
 have hv:=Sa b (acc.map bU) (la (ei b e) 0) a e
 rw [length_map] at hv
 refine bF ac aa hS ai (hv _) ?_
 refine ⟨⟨rfl,hb⟩,?_⟩
 by_cases hl:bw b e>0
 ·refine aS (decide_eq_true hl) ⟨⟨rfl,hb⟩,?_⟩
  rintro z bz az ez ⟨rfl,rfl,rfl⟩
  refine ⟨⟨rfl,aK hb⟩,?_⟩
  rintro z bz az ez ⟨rfl,rfl,rfl⟩
  refine ⟨⟨rfl,aK (aK hb)⟩,?_⟩
  rintro v bz az ez ⟨rfl,rfl,rfl⟩
  have hlt:=nq hl
  have hb2:=uo (e:=e) hb
  have hv2:=uj (e:=e) hb
  have hst:=Kv (acc:=acc) hl
  rw [hgo] at hst
  refine ⟨⟨rfl,hb2⟩,?_⟩
  by_cases hz:jY b e=0
  ·rw [decide_eq_true hz,cond_true] at hst
   refine aO (by rw [ep];exact congrArg Bool.not (decide_eq_true hz)) ?_
   by_cases hc:k9 b e=2
   ·rw [decide_eq_true hc,cond_true] at hst
    refine aO (by rw [ep];exact congrArg Bool.not (decide_eq_true hc)) ⟨⟨rfl,hv2⟩,λay=> ?_⟩
    obtain ⟨i1,i2,i3⟩:=up 0 hv2
    cases ho:wB (ei b e) 0
    ·rw [ho,cond_false] at hst
     exact aS (congrArg Bool.not ho) ⟨rfl,rfl,.inr ⟨0,acc.map bU,_,_,_,_,_,_,hst,rfl,by simp only [mD,length_map],by rw [length_map];rfl⟩⟩
    ·rw [ho,cond_true] at hst
     have ha2:=ha.app i2
     have e1:(acc++ug (ei b e) 0).map bU=acc.map bU++la (ei b e) 0:=by rw [map_append];rfl
     have hcl:(la (ei b e) 0).length=(ug (ei b e) 0).length:=length_map _
     refine aO (congrArg Bool.not ho) ⟨?_,rfl,rfl,⟨gL b e,az,jY b e,acc++ug (ei b e) 0⟩,⟨hb2,ha2,by simp only [length_append];omega,by rw [hst]⟩,by simp only;omega,.inr ⟨?_,?_⟩⟩
     ·have h:=DP (ro:=0) (T:=⟨[aM (gL b e) az (jY b e),aM (po (ei b e) 0) ay (nT (ei b e) 0)],[(acc.length,2,true)]⟩) (T1:=⟨[aM (gL b e) az (jY b e),aM (po (ei b e) 0) ay (nT (ei b e) 0)],[(acc.length,2,true)]⟩) (s:=.tmp 33) (x:=.tmp 34) (l:= [(33,.vec 2 (acc.map bU) (.tail 0 acc.length)),(34,.vec 2 (la (ei b e) 0) .none)]) (es:=acc.map bU) (es2:=la (ei b e) 0) (k:=0) (n:=acc.length) (bn:=true)
       (by simp [aP,eO,cM]) rfl (by rw [hcl,length_map];omega)
      exact h
     ·refine (show VT.keep ⟨aM (gL b e) az (jY b e)::_,_⟩ 1 1=_ from ?_)
      simp only [VT.keep,take_succ_cons,take_zero,map_cons,map_nil,bH hb2]
      simp only [TT,length_append,hcl]
     ·have e2:=jA (aA 1) (aA 1) ha2
      rw [e1] at e2
      simp only [ap,TV.ren,e2,Tok.ren]
      simp only [sl,mD,e1,length_append,length_map,hcl]
      rfl
   ·rw [decide_eq_false hc,cond_false] at hst
    exact aS (by rw [ep];exact congrArg Bool.not (decide_eq_false hc)) ⟨rfl,rfl,.inr ⟨4,acc.map bU,_,_,_,_,_,_,hst,rfl,by simp only [mD,length_map],by rw [length_map];rfl⟩⟩
  ·rw [decide_eq_false hz,cond_false] at hst
   exact aS (by rw [ep];exact congrArg Bool.not (decide_eq_false hz)) ⟨rfl,rfl,.inr ⟨0,acc.map bU,_,_,_,_,_,_,hst,rfl,by simp only [mD,length_map],by rw [length_map];rfl⟩⟩
 ·have hE:=(Oh (acc:=acc) hl).symm.trans hgo
  exact aO (decide_eq_false hl) ⟨rfl,rfl,.inl ⟨acc,b,a,e,hE.symm,rfl,by simp only [mD,length_map],rfl⟩⟩
theorem Ol {b:Bs}(h:IsB b)(a e:Int):dd prog ae (Va b (fV b e) a e (jZ b e) (gq b e) (aD prog nI 0)):=bA λp hp=>by
 obtain rfl:=mem_singleton.1 hp
 exact b9 λK hK=>Kx h a e K hK
theorem Ai:∀(k:Nat) (b:Bs) (e:Int) (acc:List (Int × Bs)),IsB b→AllB acc→∀l,ke k b e acc=.ok l→AllB l
 | 0,_,_,_,_,_,l,h=>by cases h
 |k+1,b,e,acc,hb,ha,l,h=>by
  unfold ke at h
  cases h1:decide (bw b e>0)<;>rw [h1] at h
  ·injection h with h;subst h;exact ha
  ·cases h2:decide (jY b e=0)<;>rw [h2] at h
   ·cases h
   ·cases h3:decide (k9 b e=2)<;>rw [h3] at h
    ·cases h
    ·cases h4:wB (ei b e) 0<;>rw [h4] at h
     ·cases h
     ·exact Ai k _ _ _ (uo hb) (ha.app (up 0 (uj hb)).2.1) l h
theorem Aj {b:Bs}(hb:IsB b)(e:Int)(f g:Nat→Option Nat):bk f g (fV b e)=fV b e:=by
 cases h:qm b e with
 |ok l=>rw [(yJ h).2];exact jA f g (Ai _ _ _ _ hb .nil l h)
 |error s=>rw [(vK h).2.1];rfl
theorem Gl {b:Bs}{e:Int}(h:gq b e=false):fV b e= []:=by
 cases hc:qm b e with
 |ok l=>rw [(yJ hc).1] at h;cases h
 |error s=>exact (vK hc).2.1
def Ky (b:Bs)(e:Int):TV:=.tup [.vec 2 (fV b e) .none,.val (.int .i64 (bif gq b e then 0 else jZ b e)),.val (.bool (gq b e))]
theorem Sd {b:Bs}(hb:IsB b)(a e:Int):VCx prog ae 0 nI [.ptr 0 0] ⟨[aM b a e],[]⟩ λx T'=>x=Ky b e∧∃bz az ez,T'=⟨[aM bz az ez],[]⟩:=by
 refine VCx.toLe (Q:=λT'=>∃bz az ez,T'=⟨[aM bz az ez],[]⟩) (VCx.keepQ 1 0 (le_refl _) (le_refl _) (ak ac aa an (Ol hb a e) (Vc b (fV b e) a e (jZ b e) (gq b e) _) ?_))
 refine ⟨rfl,⟨rfl,rfl,rfl,⟨rfl,trivial⟩,rfl,rfl,rfl⟩,λbz Lz bY az ez ay ey=> ?_⟩
 cases h:gq b e
 ·refine ⟨?_,_,az,ez,rfl⟩
  unfold Ky
  rw [Gl h,h]
  exact TVle.tup ⟨TVle.nil 2,TVle.refl _,TVle.refl _,trivial⟩
 ·refine ⟨TVle.of_eq ?_,_,az,ez,rfl⟩
  unfold Ky
  rw [h]
  simp only [TV.ren,ap,Aj hb e,Tok.ren,cond_true]
  rfl
theorem Vf:∀ro ys T K,PP ro ys T K→VCx prog ae ro nI ys T K:=by
 intro ro ys T K hw
 unfold PP at hw
 split at hw
 ·rename_i k
  split at hw
  ·rename_i b a e ho
   obtain ⟨⟨hro,hb⟩,hk⟩:=hw
   refine VCx.at1 (Q:=λx o' l'=>x=Ky b e∧(∃bz az ez,o'=aM bz az ez)∧l'= []) au (Nat.le_of_ble_eq_true hro) ho rfl (bH hb a e _ _) (ys1:= [.ptr 0 0]) (by simp [ap,TV.ren,aU]) ((Sd hb a e).mono λx T' ⟨h1,bz,az,ez,h2⟩=>⟨_,_,h2,h1,⟨bz,az,ez,rfl⟩,rfl⟩) ?_
   rintro x o' l' ⟨rfl,⟨bz,az,ez,rfl⟩,rfl⟩
   have hk2:=hk (bk (ba T.objs.length [k]) (ba T.tails.length []) bz) az ez
   have e2:=Aj hb e (ba T.objs.length [k]) (ba T.tails.length [])
   unfold Ky
   cases h:gq b e<;>rw [h] at hk2
   ·rw [Gl h]
    simp only [map_nil,List.append_nil,TV.ren,ap,cond_false]
    exact hk2
   ·simp only [map_nil,List.append_nil,TV.ren,ap,cond_true,e2,Tok.ren]
    exact hk2
  ·exact hw.elim
 ·exact hw.elim
def dQ (s:Int)(d:Bs):TV:=.tup [.agg [.val (.int .i64 0),.val (.int .i64 0),.val (.int .u32 0),.vec 2 [] .none],.agg [.val (.int .i64 2),.val (.int .i64 s),.vec 1 d .none]]
def pp (n h i:Int)(l:Bs):TV:=.tup [.agg [.val (.int .i64 n),.val (.int .i64 h),.val (.int .u32 i),.vec 2 l .none],.agg [.val (.int .i64 0),.val (.int .i64 0),.vec 1 [] .none]]
def fU (n h i k:Int)(b:Bs)(e pas:Int):TV:=
 if n=0 then dQ 2 [] else if pas≥1∧¬n=pas then dQ 2 [] else if ¬(h=0∨(h≥3∧h≤65535)) then dQ 6 [] else if i=0 then dQ 3 []
 else if ¬k=bw b e then dQ 0 [] else bif gq b e then pp n h i (fV b e) else dQ (jZ b e) []
def vL (b:Bs)(e pas:Int):TV:=
 fU (aR 2 b e) (aR 2 (aG 2 b e) (aH 2 b e)) (aR 4 (aG 2 (aG 2 b e) (aH 2 b e)) (aH 2 (aG 2 b e) (aH 2 b e)))
  (aR 1 (aG 4 (aG 2 (aG 2 b e) (aH 2 b e)) (aH 2 (aG 2 b e) (aH 2 b e))) (aH 4 (aG 2 (aG 2 b e) (aH 2 b e)) (aH 2 (aG 2 b e) (aH 2 b e))))
  (aG 1 (aG 4 (aG 2 (aG 2 b e) (aH 2 b e)) (aH 2 (aG 2 b e) (aH 2 b e))) (aH 4 (aG 2 (aG 2 b e) (aH 2 b e)) (aH 2 (aG 2 b e) (aH 2 b e))))
  (aH 1 (aG 4 (aG 2 (aG 2 b e) (aH 2 b e)) (aH 2 (aG 2 b e) (aH 2 b e))) (aH 4 (aG 2 (aG 2 b e) (aH 2 b e)) (aH 2 (aG 2 b e) (aH 2 b e)))) pas
def jC (b:Bs)(pas:Int):TV:=if b.length<10 then dQ 0 [] else if ¬aR 1 b 0=4 then dQ 1 [bT 0,bT 4] else vL (aG 1 b 0) (aH 1 b 0) pas
theorem dl (s:Int):TVle (.tup [.agg [.val (.int .i64 0),.val (.int .i64 0),.val (.int .u32 0),.val (.slice none 0 0)],.agg [.val (.int .i64 2),.val (.int .i64 s),.val (.slice none 0 0)]]) (dQ s []):=
 .tup ⟨.agg ⟨.refl _,.refl _,.refl _,.nil 2,trivial⟩,.agg ⟨.refl _,.refl _,.nil 1,trivial⟩,trivial⟩
theorem Om (tok:Tok):TVle (.tup [.agg [.val (.int .i64 0),.val (.int .i64 0),.val (.int .u32 0),.val (.slice none 0 0)],.agg [.val (.int .i64 2),.val (.int .i64 1),.vec 1 [bT 0,bT 4] tok]]) (dQ 1 [bT 0,bT 4]):=
 .tup ⟨.agg ⟨.refl _,.refl _,.refl _,.nil 2,trivial⟩,.agg ⟨.refl _,.refl _,.vec 1 _ _,trivial⟩,trivial⟩
theorem vM (n h i:Int)(l:Bs)(tok:Tok):TVle (.tup [.agg [.val (.int .i64 n),.val (.int .i64 h),.val (.int .u32 i),.vec 2 l tok],.agg [.val (.int .i64 0),.val (.int .i64 0),.val (.slice none 0 0)]]) (pp n h i l):=
 .tup ⟨.agg ⟨.refl _,.refl _,.refl _,.vec 2 _ _,trivial⟩,.agg ⟨.refl _,.refl _,.nil 1,trivial⟩,trivial⟩
theorem dM {q:IntKind}{x y:Int}(h:ax eql (aX (.int q x) (.int q y))=true):x=y:=by rw [gH] at h;exact of_decide_eq_true h
theorem dq {q:IntKind}{x y:Int}(h:ax eql (aX (.int q x) (.int q y))=false):¬x=y:=by rw [gH] at h;exact of_decide_eq_false h
theorem fp {q:IntKind}{x y:Int}(h:ax neq (aX (.int q x) (.int q y))=true):¬x=y:=by rw [ep] at h;exact of_decide_eq_false (by simpa using h)
theorem fq {q:IntKind}{x y:Int}(h:ax neq (aX (.int q x) (.int q y))=false):x=y:=by rw [ep] at h;exact of_decide_eq_true (by simpa using h)
section
variable {n h i k:Int}{b:Bs}{e pas:Int}
theorem Ze (h1:n=0):fU n h i k b e pas=dQ 2 []:=by unfold fU;rw [if_pos h1]
theorem Zf (h1:¬n=0)(h2:pas≥1)(h3:¬n=pas):fU n h i k b e pas=dQ 2 []:=by unfold fU;rw [if_neg h1,if_pos ⟨h2,h3⟩]
theorem Cj (h1:¬n=0)(h2:¬(pas≥1∧¬n=pas))(h3:¬(h=0∨(h≥3∧h≤65535))):fU n h i k b e pas=dQ 6 []:=by unfold fU;rw [if_neg h1,if_neg h2,if_pos h3]
theorem Ck (h1:¬n=0)(h2:¬(pas≥1∧¬n=pas))(h3:h=0∨(h≥3∧h≤65535))(h4:i=0):fU n h i k b e pas=dQ 3 []:=by unfold fU;rw [if_neg h1,if_neg h2,if_neg (λc=>c h3),if_pos h4]
theorem Cl (h1:¬n=0)(h2:¬(pas≥1∧¬n=pas))(h3:h=0∨(h≥3∧h≤65535))(h4:¬i=0)(h5:¬k=bw b e):fU n h i k b e pas=dQ 0 []:=by unfold fU;rw [if_neg h1,if_neg h2,if_neg (λc=>c h3),if_neg h4,if_pos h5]
theorem Cm (h1:¬n=0)(h2:¬(pas≥1∧¬n=pas))(h3:h=0∨(h≥3∧h≤65535))(h4:¬i=0)(h5:k=bw b e):fU n h i k b e pas=bif gq b e then pp n h i (fV b e) else dQ (jZ b e) []:=by unfold fU;rw [if_neg h1,if_neg h2,if_neg (λc=>c h3),if_neg h4,if_neg (λc=>c h5)]
end
--bumped 32
def o1 (B:Bs):Bs:=aG (1:Nat) B 0
def g1 (B:Bs):Int:=aH (1:Nat) B 0
def m1 (B:Bs):Int:=Kg (1:Nat) B 0 0
def o2 (B:Bs):Bs:=aG (2:Nat) (o1 B) (g1 B)
def g2 (B:Bs):Int:=aH (2:Nat) (o1 B) (g1 B)
def m2 (B:Bs):Int:=Kg (2:Nat) B (m1 B) (g1 B)
def o3 (B:Bs):Bs:=aG (2:Nat) (o2 B) (g2 B)
def g3 (B:Bs):Int:=aH (2:Nat) (o2 B) (g2 B)
def m3 (B:Bs):Int:=Kg (2:Nat) B (m2 B) (g2 B)
def o4 (B:Bs):Bs:=aG (4:Nat) (o3 B) (g3 B)
def g4 (B:Bs):Int:=aH (4:Nat) (o3 B) (g3 B)
def m4 (B:Bs):Int:=Kg (4:Nat) B (m3 B) (g3 B)
def o5 (B:Bs):Bs:=aG (1:Nat) (o4 B) (g4 B)
def g5 (B:Bs):Int:=aH (1:Nat) (o4 B) (g4 B)
def m5 (B:Bs):Int:=Kg (1:Nat) B (m4 B) (g4 B)
abbrev uq:=117
def z7:VO:=.cells [.val (.int .i64 0),.val (.int .i64 0),.val (.slice none 0 0)]
def f7 (s:Int):VO:=.cells [.val (.int .i64 3),.val (.int .i64 s),.val (.slice none 0 0)]
abbrev iJ:=List (Nat × Nat × Bool)
def Be:List Nat:= [2,3,4,5]
def ry (L:Bs):List TV:= [.val (.slice none 0 0),.ptr 0 0,.ptr 1 0,.vec 3 L (.tail 0 L.length)]
def PQ (N:Nat)(O:Bs→Int→Int→VO)(L:Bs)(ok:Bool)(K:KX):Prop:=bif ok then (∀(bz:Bs) (az ez:Int),K .normal (aQ N Be (ry L)) ⟨[z7,O bz az ez],[(L.length,3,true)]⟩ []) else ∀(rest:List VO) (tlz:iJ) (Lz:Bs),K .ret (aQ N Be (ry Lz)) ⟨f7 1::rest,tlz⟩ []
def spL (N:Nat)(O:Bs→Int→Int→VO)(b L:Bs)(ok:Bool)(c0:Code):Nat→Option (bN × Code):=ct [(0,dE N Be [(5,3)] (ry []) ⟨[z7,O b 0 0],[(0,3,true)]⟩ (PQ N O L ok),c0)]
theorem Zg (b L:Bs)(ok:Bool)(Q:TV→VT→Prop):ar prog ae (aF [(kJ,nj)]) aT 300 (spL 41 aM b L ok (aD prog uq 0)) 0 uq [.vec 1 b .none] am Q=
 (IsB (b)∧
 ((aD prog uq (0:Nat)=aD prog uq (0:Nat))∧
 (((@Eq (Option Nat) .none .none)∧
 ((@Eq (Nat) 0 0)∧
 ((@Eq (List Nat) [] [])∧
 (((@Eq (Option TV) (.some aE) (.some aE))∧
 True)∧
 ((@Eq (VT) ⟨[cL,(.cells [aI,(av b),aB,aB])],[(0,(3,true))]⟩ ⟨[cL,(.cells [aI,(av b),aB,aB])],[(0,(3,true))]⟩)∧
 ((@Eq (Bool) true true)∧
 (@Eq (List TV) [aE,dL,iy,(.vec 3 [] (.tail 0 0))] [aE,dL,iy,(.vec 3 [] (.tail 0 0))])))))))∧
 (bif ok
 then (∀bz:Bs,(∀az:Int,(∀ez:Int,Q (.tup [(vD L (length L)),mC]) ⟨[cL,(.cells [aI,(av bz),(ah az),(ah ez)])],[((length L),(3,true))]⟩)))
 else (∀rest:List VO,(∀tlz:iJ,(∀Lz:Bs,Q (.tup [aE,PJ]) ⟨[(.cells [(.val (.int .i64 3)),(.val (.int .i64 1)),(.val (.slice .none 0 0))])]++rest,tlz⟩))))))):=by kernel_rfl
theorem Vg (b L:Bs)(p:List TV)(a:Int)(Q:Exit→List TV→VT→List Nat→Nat→Prop):vx prog ae (aF [(kK,nR),(i7,me .i64 1),(m8,me .i64 2),(kb,Bb),(jy,mc)]) (aZ [(999999,.dead,none),(38,.vec 3 (L++ [p]) (.tail 0 (L.length+1)),some λT=>{T with tails:= [(L.length+1,3,true)]})]) 300 aN none 0 (cq prog uq 0) (aQ 41 Be (ry L)) ⟨[z7,aM b a 0],[(L.length,3,true)]⟩ [] (cN Be Q)=
 (((@Eq (Bool) true true)∧
 IsB (b))∧
 (bif decide (bw b (0:Int)>(0:Int))
 then (((@Eq (Bool) true true)∧
 IsB (b))∧
 (∀z:Int,(∀bz:Bs,(∀az:Int,(∀ez:Int,(((@Eq (Int) (z) (aR (1:Nat) b (0:Int)))∧
 ((@Eq (Bs) (bz) (aG (↑(1:Nat):Int) b (0:Int)))∧
 (@Eq (Int) (ez) (aH (↑(1:Nat):Int) b (0:Int)))))→(((@Eq (Bool) true true)∧
 IsB (bz))∧
 (∀z_10:Int,(∀bz_11:Bs,(∀az_12:Int,(∀ez_13:Int,(((@Eq (Int) (z_10) (aR (1:Nat) bz ez))∧
 ((@Eq (Bs) (bz_11) (aG (↑(1:Nat):Int) bz ez))∧
 (@Eq (Int) (ez_13) (aH (↑(1:Nat):Int) bz ez))))→(bif ax neq (k6 (wrap i64 (↑(toNat (ofInt (IntKind.bits i64) z&&&ofInt (IntKind.bits i64) (16:Int))):Int)) (0:Int))
 then (((@Eq (Bool) true true)∧
 IsB (bz_11))∧
 (∀z_15:Int,(∀bz_16:Bs,(∀az_17:Int,(∀ez_18:Int,(((@Eq (Int) (z_15) (aR (2:Nat) bz_11 ez_13))∧
 ((@Eq (Bs) (bz_16) (aG (↑(2:Nat):Int) bz_11 ez_13))∧
 (@Eq (Int) (ez_18) (aH (↑(2:Nat):Int) bz_11 ez_13))))→(((@Eq (Bool) true true)∧
 IsB (bz_16))∧
 (∀v:Bs,(∀bz_21:Bs,(∀az_22:Int,(∀ez_23:Int,(((@Eq (Bs) (v) (cm z_15 bz_16 ez_18))∧
 ((@Eq (Bs) (bz_21) (aG z_15 bz_16 ez_18))∧
 (@Eq (Int) (ez_23) (aH z_15 bz_16 ez_18))))→(((@Eq (Bool) true true)∧
 IsB (bz_21))∧
 (bif ax neq (k6 ez_23 (0:Int))
 then Q .ret (yB L (length L)) ⟨[yA,(.cells [aI,(av bz_21),(ah az_22),(ah ez_23)]),(en z z_10 v)],[((length L),(3,true))]⟩ [] 41
 else (bb prog (λ_=>.none) 0 ⟨[cL,(.cells [aI,(av bz_21),(ah az_22),(ah ez_23)]),(en z z_10 v)],[((length L),(3,true))]⟩ (.call ⟨(.builtin .append),#[(.tmp 35),(.tmp 37)],#[199,199]⟩) [(35,(vD L (length L))),(37,(.vec 3 [[(.val (.int .i64 (z))),(.val (.int .i64 (z_10))),(.vec 1 (v) .none)]] .full))] (vD (L++ [p]) (length L+(1:Nat))) ⟨[cL,(.cells [aI,(av bz_21),(ah az_22),(ah ez_23)]),(en z z_10 v)],[((length L+(1:Nat)),(3,true))]⟩∧
 Q .normal (yB (L++ [p]) (length L+(1:Nat))) ⟨[cL,(.cells [aI,(av bz_21),(ah az_22),(ah ez_23)]),(en z z_10 v)],[((length L+(1:Nat)),(3,true))]⟩ [] 41)))))))))))))))
 else (((@Eq (Bool) true true)∧
 IsB (bz_11))∧
 (∀z_15:Int,(∀bz_16:Bs,(∀az_17:Int,(∀ez_18:Int,(((@Eq (Int) (z_15) (aR (1:Nat) bz_11 ez_13))∧
 ((@Eq (Bs) (bz_16) (aG (↑(1:Nat):Int) bz_11 ez_13))∧
 (@Eq (Int) (ez_18) (aH (↑(1:Nat):Int) bz_11 ez_13))))→(((@Eq (Bool) true true)∧
 IsB (bz_16))∧
 (∀v:Bs,(∀bz_21:Bs,(∀az_22:Int,(∀ez_23:Int,(((@Eq (Bs) (v) (cm z_15 bz_16 ez_18))∧
 ((@Eq (Bs) (bz_21) (aG z_15 bz_16 ez_18))∧
 (@Eq (Int) (ez_23) (aH z_15 bz_16 ez_18))))→(((@Eq (Bool) true true)∧
 IsB (bz_21))∧
 (bif ax neq (k6 ez_23 (0:Int))
 then Q .ret (yB L (length L)) ⟨[yA,(.cells [aI,(av bz_21),(ah az_22),(ah ez_23)]),(en z z_10 v)],[((length L),(3,true))]⟩ [] 41
 else (bb prog (λ_=>.none) 0 ⟨[cL,(.cells [aI,(av bz_21),(ah az_22),(ah ez_23)]),(en z z_10 v)],[((length L),(3,true))]⟩ (.call ⟨(.builtin .append),#[(.tmp 35),(.tmp 37)],#[199,199]⟩) [(35,(vD L (length L))),(37,(.vec 3 [[(.val (.int .i64 (z))),(.val (.int .i64 (z_10))),(.vec 1 (v) .none)]] .full))] (vD (L++ [p]) (length L+(1:Nat))) ⟨[cL,(.cells [aI,(av bz_21),(ah az_22),(ah ez_23)]),(en z z_10 v)],[((length L+(1:Nat)),(3,true))]⟩∧
 Q .normal (yB (L++ [p]) (length L+(1:Nat))) ⟨[cL,(.cells [aI,(av bz_21),(ah az_22),(ah ez_23)]),(en z z_10 v)],[((length L+(1:Nat)),(3,true))]⟩ [] 41))))))))))))))))))))))))))))
 else Q (.exit 0) (yB L (length L)) ⟨[cL,(.cells [aI,(av b),(ah a),aB])],[((length L),(3,true))]⟩ [] 41)):=by kernel_rfl
def lO (z:Int):Bool:=ax neq (aX (Value.int i64 (wrap i64 (toNat (ofInt (IntKind.bits i64) z&&&ofInt (IntKind.bits i64) (16:Int)):Nat))) (Value.int i64 (0:Int)))
def gM (b:Bs):Int:=aR 1 b 0
def ta (b:Bs):Nat:=bif lO (gM b) then 2 else 1
def j3 (b:Bs):Int:=aR 1 (aG 1 b 0) (aH 1 b 0)
def qL (b:Bs):Bs:=aG 1 (aG 1 b 0) (aH 1 b 0)
def ur (b:Bs):Int:=aH 1 (aG 1 b 0) (aH 1 b 0)
def yK (b:Bs):Int:=aR (ta b) (qL b) (ur b)
def sF (b:Bs):Bs:=aG (ta b) (qL b) (ur b)
def xj (b:Bs):Int:=aH (ta b) (qL b) (ur b)
def iK (b:Bs):Bs:=cm (yK b) (sF b) (xj b)
def lb (b:Bs):Bs:=aG (yK b) (sF b) (xj b)
def ut (b:Bs):Int:=aH (yK b) (sF b) (xj b)
abbrev il:=Int × Int × Bs
def gf:Nat→Bs→List il→Option (List il)
 | 0,_,_=>none
 |k+1,b,acc=>bif decide (bw b 0>0) then (bif decide (ut b=0) then gf k (lb b) (acc++ [(gM b,j3 b,iK b)]) else none) else some acc
def tb (b:Bs):Option (List il):=gf (b.length+1) b []
def gt (p:il):List TV:= [.val (.int .i64 p.1),.val (.int .i64 p.2.1),.vec 1 p.2.2 .none]
def hJ (b:Bs):List il:=(tb b).getD []
def fg (b:Bs):Bs:=(hJ b).map gt
def jD (b:Bs):Bool:=(tb b).isSome
def wC (b:Bs):TV:=.tup [.vec 3 (fg b) .none,.agg [.val (.int .i64 (bif jD b then 0 else 3)),.val (.int .i64 (bif jD b then 0 else 1)),.vec 1 [] .none]]
def All3 (l:List il):Prop:=∀p∈l,IsB p.2.2
theorem All3.nil:All3 []:=λp hp=>by simp at hp
theorem All3.snoc {l:List il}(h:All3 l){c t:Int}{v:Bs}(hv:IsB v):All3 (l++ [(c,t,v)]):=λp hp=>by
 rcases mem_append.1 hp with h1 | h1
 ·exact h p h1
 ·obtain rfl:=mem_singleton.1 h1;exact hv
theorem sG (f g:Nat→Option Nat):∀{l:List il},All3 l→bk f g (l.map gt)=l.map gt
 |[],_=>rfl
 |a::l,h=>by
  have h1:=sG f g (l:=l) λp hp=>h p (List.mem_cons_of_mem _ hp)
  have h2:=(h a mem_cons_self).ren f g
  simp only [map_cons,bk,h1,gt,ap,TV.ren,h2,Tok.ren]
theorem yL {b:Bs}(h:IsB b):IsB (iK b):=iI (aK (aK (aK h)))
theorem Kz {b:Bs}(h:IsB b):IsB (lb b):=aK (aK (aK (aK h)))
theorem yM {b:Bs}(h:bw b 0>0):(lb b).length<b.length:=by
 have h1:=Ah h
 have h2:=nm (n:=1) (b:=aG 1 b 0) (e:=aH 1 b 0)
 have h3:=nm (n:=ta b) (b:=qL b) (e:=ur b)
 have h4:=nm (n:=yK b) (b:=sF b) (e:=xj b)
 unfold lb
 unfold qL at h3
 unfold sF qL at h4
 unfold sF qL
 omega
theorem Bf:∀(k j:Nat) (b:Bs) (acc:List il),b.length<k→b.length<j→gf k b acc=gf j b acc
 | 0,_,_,_,h,_=>absurd h (not_lt_zero _)
 |_,0,_,_,_,h=>absurd h (not_lt_zero _)
 |k+1,j+1,b,acc,h1,h2=>by
  unfold gf
  by_cases hl:bw b 0>0
  ·have:=yM hl
   rw [decide_eq_true hl,Bf k j (lb b) _ (by omega) (by omega)]
  ·rw [decide_eq_false hl];rfl
theorem Bg {b:Bs}{acc:List il}(hl:bw b 0>0)(hz:ut b=0):gf (b.length+1) b acc=gf ((lb b).length+1) (lb b) (acc++ [(gM b,j3 b,iK b)]):=by
 have:=yM hl
 rw [Bf ((lb b).length+1) b.length (lb b) _ (by omega) (by omega)]
 simp only [gf,decide_eq_true hl,decide_eq_true hz,cond_true]
theorem DQ {b:Bs}{acc:List il}(hl:bw b 0>0)(hz:¬ut b=0):gf (b.length+1) b acc=none:=by
 simp only [gf,decide_eq_true hl,decide_eq_false hz,cond_true,cond_false]
theorem Oo {b:Bs}{acc:List il}(hl:¬bw b 0>0):gf (b.length+1) b acc=some acc:=by
 simp only [gf,decide_eq_false hl,cond_false]
theorem Gm:∀(k:Nat) (b:Bs) (acc:List il),IsB b→All3 acc→∀l,gf k b acc=some l→All3 l
 | 0,_,_,_,_,l,h=>by cases h
 |k+1,b,acc,hb,ha,l,h=>by
  unfold gf at h
  cases h1:decide (bw b 0>0)<;>rw [h1] at h
  ·injection h with h;subst h;exact ha
  ·cases h2:decide (ut b=0)<;>rw [h2] at h
   ·cases h
   ·exact Gm k _ _ (Kz hb) (ha.snoc (yL hb)) l h
theorem Vh {b:Bs}(hb:IsB b):All3 (hJ b):=by
 unfold hJ
 cases h:tb b with
 |none=>exact .nil
 |some l=>exact Gm _ _ _ hb .nil l h
theorem KA {b:Bs}{k:Nat}(hk:ta b=k){z ez z2 e2 z3 e3 e4:Int}{bz b2 b3 v b4:Bs}(h1:z=aR (1:Nat) b 0∧bz=aG (1:Nat) b 0∧ez=aH (1:Nat) b 0)(h2:z2=aR (1:Nat) bz ez∧b2=aG (1:Nat) bz ez∧e2=aH (1:Nat) bz ez)(h3:z3=aR k b2 e2∧b3=aG k b2 e2∧e3=aH k b2 e2)(h4:v=cm z3 b3 e3∧b4=aG z3 b3 e3∧e4=aH z3 b3 e3):
  z=gM b∧z2=j3 b∧v=iK b∧b4=lb b∧e4=ut b:=by
 obtain ⟨rfl,rfl,rfl⟩:=h1
 obtain ⟨rfl,rfl,rfl⟩:=h2
 subst hk
 obtain ⟨rfl,rfl,rfl⟩:=h3
 obtain ⟨rfl,rfl,rfl⟩:=h4
 exact ⟨rfl,rfl,rfl,rfl,rfl⟩
theorem DR:∃inf:TypeInfo,prog.info? 204=some inf∧inf.size=3∧inf.bytes+1≤1000∧inf.zero=some (.agg #[.int .i64 0,.int .i64 0,.slice none 0 0]):=
 ⟨(prog.info? 204).getD default,by kernel_rfl,by kernel_rfl,Nat.le_of_ble_eq_true (by kernel_rfl),by kernel_rfl⟩
theorem DS {ro:Nat}{T T1:VT}{s x:Operand}{l:List (Nat × TV)}{es es2:List (List TV)}{k n:Nat}{bn:Bool}(hs:cM T 3 (aP ae l s)=some (es,k,n,bn,T1))(hx:fP 3 (aP ae l x)=some es2)(hb:es.length+es2.length≤64000001):
    bb prog ae ro T (.call ⟨.builtin .append,#[s,x],#[199,199]⟩) l (.vec 3 (es++es2) (.tail k (n+es2.length))) {T1 with tails:=T1.tails.set k (n+es2.length,3,bn)}:=by
  obtain ⟨inf,i1,i2,i3,i4⟩:=DR
  have h:=eQ (inf:=inf) (P:=prog) (G:=ae) (ro:=ro) (T:=T) (T1:=T1) (t:=199) (tx:=199) (s:=s) (x:=x) (l:=l) (es:=es) (es2:=es2) (k:=k) (n:=n) (bn:=bn) Tryz.underlying199 i1 i4 (by rw [i2];rfl) (by rw [i2];decide) (by kernel_rfl) (by rw [i2];exact hs) (by rw [i2];exact hx)
    (by have h1:=i3
        have h2:=Nat.mul_le_mul hb h1
        omega)
  rw [i2] at h
  exact h
def KB (N:Nat)(O:Bs→Int→Int→VO)(b0:Bs)(ex:Exit)(vs:List TV)(T:VT):Prop:=
 (∃(l:List il) (bz:Bs) (az ez:Int),tb b0=some l∧ex=.normal∧vs=ry (l.map gt)∧T=⟨[z7,O bz az ez],[(l.length,3,true)]⟩)∨
 (∃(rest:List VO) (tlz:iJ) (Lz:Bs),tb b0=none∧ex=.ret∧vs=ry Lz∧T=⟨f7 1::rest,tlz⟩)
theorem KC {N:Nat}{O:Bs→Int→Int→VO}{b0:Bs}{K:KX}(hK:PQ N O (fg b0) (jD b0) K){ex:Exit}{vs:List TV}{T:VT}(h:KB N O b0 ex vs T):K ex (aQ N Be vs) T []:=by
 unfold PQ at hK
 rcases h with ⟨l,bz,az,ez,h1,rfl,rfl,rfl⟩ | ⟨rest,tlz,Lz,h1,rfl,rfl,rfl⟩
 ·simp only [jD,h1,isSome_some,cond_true,fg,hJ,Option.getD_some,length_map] at hK
  exact hK bz az ez
 ·simp only [jD,h1,isSome_none,cond_false] at hK
  exact hK rest tlz Lz
theorem Oq {b0:Bs}(h0:IsB b0)(K:KX)(hK:PQ 41 aM (fg b0) (jD b0) K):VWx prog ae none 0 (aD prog uq 0) (aQ 41 Be (ry [])) ⟨[z7,aM b0 0 0],[(0,3,true)]⟩ [] K:=by
 let sl:Bs × Int × List il→List TV:=λs=>ry (s.2.2.map gt)
 let TT:Bs × Int × List il→VT:=λs=>⟨[z7,aM s.1 s.2.1 0],[(s.2.2.length,3,true)]⟩
 refine dO (f:=uq) (id:=0) (by kernel_rfl) 41 Be (λs:Bs × Int × List il=>s.1.length) sl TT (λs=>IsB s.1∧All3 s.2.2∧s.2.2.length+s.1.length≤b0.length∧gf (s.1.length+1) s.1 s.2.2=tb b0) 2 1 (λ_ _=>⟨le_refl _,le_refl _⟩)
  (KB 41 aM b0) (λs hs=> ?_) ⟨b0,0,[]⟩ ⟨h0,.nil,by simp,rfl⟩ K (λex vs T h=>KC hK h)
 obtain ⟨b,a,acc⟩:=s
 obtain ⟨hrem,ha,hlen,hgo⟩:=hs
 have hsm:=h0.small
 simp only at hrem ha hlen hgo
 have hS:bf prog ae (aF [(kK,nR),(i7,me .i64 1),(m8,me .i64 2),(kb,Bb),(jy,mc)]):=aL λp hp=>by
  rcases mem_cons.1 hp with rfl | hp;exact pj
  rcases mem_cons.1 hp with rfl | hp;exact λro ys T K h=>rt _ _ _ _ (np h)
  rcases mem_cons.1 hp with rfl | hp;exact λro ys T K h=>vI _ _ _ _ (np h)
  rcases mem_cons.1 hp with rfl | hp;exact λro ys T K h=>uc _ _ _ _ (DL h)
  obtain rfl:=mem_singleton.1 hp;exact ru
 have hv:=Vg b (acc.map gt) (gt (gM b,j3 b,iK b)) a
 rw [length_map] at hv
 refine bF ac aa hS ai (hv _) ?_
 refine ⟨⟨rfl,hrem⟩,?_⟩
 by_cases hl:bw b 0>0
 ·have hlt:=yM hl
  refine aS (decide_eq_true hl) ⟨⟨rfl,hrem⟩,?_⟩
  intro z bz az ez hq1
  have hbz:IsB bz:=by rw [hq1.2.1];exact aK hrem
  refine ⟨⟨rfl,hbz⟩,?_⟩
  intro z2 b2 a2 e2 hq2
  have hb2:IsB b2:=by rw [hq2.2.1];exact aK hbz
  have hzc:z=gM b:=hq1.1
  refine aq (λhx=> ?_) (λhx=> ?_)
  ·rw [hzc] at hx
   have hk:ta b=2:=by unfold ta;rw [show lO (gM b)=true from hx];rfl
   refine ⟨⟨rfl,hb2⟩,?_⟩
   intro z3 b3 a3 e3 hq3
   have hb3:IsB b3:=by rw [hq3.2.1];exact aK hb2
   refine ⟨⟨rfl,hb3⟩,?_⟩
   intro v b4 a4 e4 hq4
   have hb4:IsB b4:=by rw [hq4.2.1];exact aK hb3
   obtain ⟨rfl,rfl,rfl,rfl,rfl⟩:=KA hk hq1 hq2 hq3 hq4
   refine ⟨⟨rfl,hb4⟩,?_⟩
   by_cases hz:ut b=0
   ·have ha2:All3 (acc++ [(gM b,j3 b,iK b)]):=ha.snoc (yL hrem)
    have e1:(acc++ [(gM b,j3 b,iK b)]).map gt=acc.map gt++ [gt (gM b,j3 b,iK b)]:=by rw [map_append];rfl
    rw [hz]
    refine aO (by rw [ep];rfl) ⟨?_,rfl,rfl,⟨lb b,a4,acc++ [(gM b,j3 b,iK b)]⟩,⟨hb4,ha2,by simp only [length_append,length_cons,length_nil];omega,by rw [←hgo];exact (Bg hl hz).symm⟩,hlt,.inr ⟨?_,?_⟩⟩
    ·have h:=DS (ro:=0) (T:=⟨[z7,aM (lb b) a4 0,.cells (gt (gM b,j3 b,iK b))],[(acc.length,3,true)]⟩) (T1:=⟨[z7,aM (lb b) a4 0,.cells (gt (gM b,j3 b,iK b))],[(acc.length,3,true)]⟩) (s:=.tmp 35) (x:=.tmp 37) (l:= [(35,.vec 3 (acc.map gt) (.tail 0 acc.length)),(37,.vec 3 [gt (gM b,j3 b,iK b)] .full)]) (es:=acc.map gt) (es2:= [gt (gM b,j3 b,iK b)]) (k:=0) (n:=acc.length) (bn:=true)
      (by simp [aP,eO,cM]) rfl (by simp only [length_map,length_cons,length_nil];omega)
     exact h
    ·refine (show VT.keep ⟨z7::aM (lb b) a4 0::_,_⟩ 2 1=_ from ?_)
     simp only [VT.keep,take_succ_cons,take_zero,map_cons,map_nil,bH hb4]
     simp only [TT,length_append,length_cons,length_nil]
     rfl
    ·have e2:=sG (aA 2) (aA 1) ha2
     rw [e1] at e2
     simp only [ap,TV.ren,e2,Tok.ren]
     simp only [sl,ry,e1,length_append,length_map,length_cons,length_nil]
     rfl
   ·refine aS (by rw [ep];exact congrArg Bool.not (decide_eq_false hz)) ⟨rfl,rfl,.inr ⟨_,_,acc.map gt,by rw [←hgo];exact DQ hl hz,rfl,by simp only [ry,length_map],rfl⟩⟩
  ·rw [hzc] at hx
   have hk:ta b=1:=by unfold ta;rw [show lO (gM b)=false from hx];rfl
   refine ⟨⟨rfl,hb2⟩,?_⟩
   intro z3 b3 a3 e3 hq3
   have hb3:IsB b3:=by rw [hq3.2.1];exact aK hb2
   refine ⟨⟨rfl,hb3⟩,?_⟩
   intro v b4 a4 e4 hq4
   have hb4:IsB b4:=by rw [hq4.2.1];exact aK hb3
   obtain ⟨rfl,rfl,rfl,rfl,rfl⟩:=KA hk hq1 hq2 hq3 hq4
   refine ⟨⟨rfl,hb4⟩,?_⟩
   by_cases hz:ut b=0
   ·have ha2:All3 (acc++ [(gM b,j3 b,iK b)]):=ha.snoc (yL hrem)
    have e1:(acc++ [(gM b,j3 b,iK b)]).map gt=acc.map gt++ [gt (gM b,j3 b,iK b)]:=by rw [map_append];rfl
    rw [hz]
    refine aO (by rw [ep];rfl) ⟨?_,rfl,rfl,⟨lb b,a4,acc++ [(gM b,j3 b,iK b)]⟩,⟨hb4,ha2,by simp only [length_append,length_cons,length_nil];omega,by rw [←hgo];exact (Bg hl hz).symm⟩,hlt,.inr ⟨?_,?_⟩⟩
    ·have h:=DS (ro:=0) (T:=⟨[z7,aM (lb b) a4 0,.cells (gt (gM b,j3 b,iK b))],[(acc.length,3,true)]⟩) (T1:=⟨[z7,aM (lb b) a4 0,.cells (gt (gM b,j3 b,iK b))],[(acc.length,3,true)]⟩) (s:=.tmp 35) (x:=.tmp 37) (l:= [(35,.vec 3 (acc.map gt) (.tail 0 acc.length)),(37,.vec 3 [gt (gM b,j3 b,iK b)] .full)]) (es:=acc.map gt) (es2:= [gt (gM b,j3 b,iK b)]) (k:=0) (n:=acc.length) (bn:=true)
      (by simp [aP,eO,cM]) rfl (by simp only [length_map,length_cons,length_nil];omega)
     exact h
    ·refine (show VT.keep ⟨z7::aM (lb b) a4 0::_,_⟩ 2 1=_ from ?_)
     simp only [VT.keep,take_succ_cons,take_zero,map_cons,map_nil,bH hb4]
     simp only [TT,length_append,length_cons,length_nil]
     rfl
    ·have e2:=sG (aA 2) (aA 1) ha2
     rw [e1] at e2
     simp only [ap,TV.ren,e2,Tok.ren]
     simp only [sl,ry,e1,length_append,length_map,length_cons,length_nil]
     rfl
   ·refine aS (by rw [ep];exact congrArg Bool.not (decide_eq_false hz)) ⟨rfl,rfl,.inr ⟨_,_,acc.map gt,by rw [←hgo];exact DQ hl hz,rfl,by simp only [ry,length_map],rfl⟩⟩
 ·exact aO (decide_eq_false hl) ⟨rfl,rfl,.inl ⟨acc,b,a,0,by rw [←hgo];exact Oo hl,rfl,by simp only [ry,length_map],rfl⟩⟩
theorem Se {b:Bs}(h:IsB b):dd prog ae (spL 41 aM b (fg b) (jD b) (aD prog uq 0)):=bA λp hp=>by
 obtain rfl:=mem_singleton.1 hp
 exact b9 λK hK=>Oq h K hK
theorem Vi {b:Bs}(h:jD b=false):TVle (.tup [.val (.slice none 0 0),.agg [.val (.int .i64 3),.val (.int .i64 1),.val (.slice none 0 0)]]) (wC b):=by
 have hl:fg b= []:=by
  unfold fg hJ
  unfold jD at h
  cases hc:tb b with
  |none=>rfl
  |some l=>rw [hc] at h;cases h
 unfold wC
 rw [h,hl]
 exact .tup ⟨.nil 3,.agg ⟨.refl _,.refl _,.nil 1,trivial⟩,trivial⟩
theorem Sf {b:Bs}(h:jD b=true)(tok:Tok):TVle (.tup [.vec 3 (fg b) tok,.agg [.val (.int .i64 0),.val (.int .i64 0),.val (.slice none 0 0)]]) (wC b):=by
 unfold wC
 rw [h]
 exact .tup ⟨.vec 3 _ _,.agg ⟨.refl _,.refl _,.nil 1,trivial⟩,trivial⟩
theorem Ak {b:Bs}(hb:IsB b)(f g:Nat→Option Nat):bk f g (fg b)=fg b:=sG f g (Vh hb)
theorem Vj {b:Bs}(hb:IsB b):VCx prog ae 0 uq [.vec 1 b .none] ⟨[],[]⟩ λx T'=>x=wC b∧T'=⟨[],[]⟩:=by
 refine VCx.toLe (Q:=λT'=>T'=⟨[],[]⟩) (VCx.keepQ 0 0 (le_refl _) (le_refl _) (ak ac aa (aL λp hp=>by obtain rfl:=mem_singleton.1 hp;exact vH) (Se hb) (Zg b (fg b) (jD b) _) ?_))
 refine ⟨hb,rfl,⟨rfl,rfl,rfl,⟨rfl,trivial⟩,rfl,rfl,rfl⟩,?_⟩
 cases h:jD b
 ·exact λrest tlz Lz=>⟨Vi h,rfl⟩
 ·refine λbz az ez=>⟨?_,rfl⟩
  simp only [TV.ren,ap,Ak hb]
  exact Sf h _
--bumped 32
abbrev ku:=160
abbrev KD:=178
abbrev yN:=184
def iT (z:Int):List TV:= [.val (.int .i64 z)]
def iV (l:List Int):Bs:=l.map iT
def Gn:List Nat:= [0,1,4,6,7,8]
def Bh (L:Bs)(v r j:Int):List TV:= [.vec 1 L .none,.val (.int .i64 v),.val (.int .i64 r),.vec 1 L .none,.val (.int .i64 L.length),.val (.int .i64 j)]
def ixL (L:Bs)(v r j:Int)(hit:Bool)(c0:Code):Nat→Option (bN × Code):=ct [(0,dE 19 Gn [] (Bh L v 0 0) ⟨[],[]⟩ λK=>bif hit then K .ret (aQ 19 Gn (Bh L v r j)) ⟨[],[]⟩ [] else K .normal (aQ 19 Gn (Bh L v 0 L.length)) ⟨[],[]⟩ [],c0)]
def has0 (L:Bs):Bool:=L.any λr=>decide (fZ r=0)
def ISm (L:Bs):Prop:=∃l:List Int,L=iV l∧l.length≤1000
def PR:aW:=λ_ ys T K=>match ys with
 |[.vec 1 L _,.val (.int .i64 0)]=>ISm L∧K (.val (.bool (has0 L))) T
 |_=>False
def Bi:List Nat:= [2,3,4,5]
def Bj (L:Bs):List TV:= [.val (.slice none 0 0),.val (.bool false),.ptr 0 0,.vec 1 L (.tail 0 L.length)]
def xk:List Nat:= [2,3,4,5,35,36]
def Bk (L:Bs)(n j:Int):List TV:= [.val (.slice none 0 0),.val (.bool false),.ptr 0 0,.vec 1 L (.tail 0 L.length),.val (.int .i64 n),.val (.int .i64 j)]
def Vk (b b' L L':Bs)(a e a' e' n:Int)(c0:Code):Nat→Option (bN × Code):=ct [(2,dE 55 xk [] (Bk L n 0) ⟨[aM b a e],[(L.length,1,true)]⟩ (λK=>K .normal (aQ 55 xk (Bk L' n n)) ⟨[aM b' a' e'],[(L'.length,1,true)]⟩ []),c0)]
def Vl (P:Bs→Int→Prop)(N:Prop)(K:KX):Prop:=(∀(L bz:Bs) (az ez:Int),(IsB bz∧P L ez)→K .normal (aQ 55 Bi (Bj L)) ⟨[aM bz az ez],[(L.length,1,true)]⟩ [])∧(∀(rest:List VO) (tlz:List (Nat × Nat × Bool)) (Lz:Bs),N→K .ret (aQ 55 Bi (Bj Lz)) ⟨rest,tlz⟩ [])
def ptL (b:Bs)(P:Bs→Int→Prop)(N:Prop)(c0:Code):Nat→Option (bN × Code):=ct [(0,dE 55 Bi [(5,1)] (Bj []) ⟨[aM b 0 0],[(0,1,true)]⟩ (Vl P N),c0)]
theorem Zh (L:Bs)(v r j:Int)(hit:Bool)(Q:TV→VT→Prop):ar prog ae bt aT 300 (ixL L v r j hit (aD prog yN 0)) 0 yN [.vec 1 L .none,.val (.int .i64 v)] am Q=
 ((aD prog yN (0:Nat)=aD prog yN (0:Nat))∧
 (((@Eq (Option Nat) .none .none)∧
 ((@Eq (Nat) 0 0)∧
 ((@Eq (List Nat) [] [])∧
 (True  ∧
 ((@Eq (VT) am am)∧
 ((@Eq (Bool) true true)∧
 (@Eq (List TV) [(av L),(ah v),aB,(av L),(ah (↑(length L):Int)),aB] [(av L),(ah v),aB,(av L),(ah (↑(length L):Int)),aB])))))))∧
 (bif hit
 then Q (ah r) am
 else Q (ah (-1)) am))):=by kernel_rfl
theorem KE (L:Bs)(v r z:Int)(j:Nat)(Q:Exit→List TV→VT→List Nat→Nat→Prop):vx prog ae bt (aZ [(999998,.dead,none),(14,.elt (iT z),none)]) 300 aN none 0 (cq prog yN 0) (aQ 19 Gn (Bh L v r j)) am [] (cN Gn Q)=
 (bif decide ((↑j:Int)<(↑(length L):Int))
 then (bc prog (λ_=>.none) (.indexAddr 59 (.tmp 12) (.tmp 13)) [(12,(av L)),(13,(ah (↑j:Int)))] (sD z)∧
 (bif ax eql (k6 v z)
 then Q .ret (Iq L v (↑j:Int) L (↑(length L):Int) (↑j:Int)) am [] 19
 else Q .normal (Iq L v r L (↑(length L):Int) (wrap i64 ((↑j:Int)+(1:Int)))) am [] 19))
 else Q (.exit 0) (Iq L v r L (↑(length L):Int) (↑j:Int)) am [] 19):=by kernel_rfl
theorem Zi (L:Bs)(v r:Int)(Q:TV→VT→Prop):ar prog ae (aF [(yN,Kb [.vec 1 L .none,.val (.int .i64 v)] (ah r))]) aT 300 aN 0 KD [.vec 1 L .none,.val (.int .i64 v)] am Q=
 ((@Eq (List TV) [(av L),(ah v)] [(av L),(ah v)])∧
 Q (cS (decide (r≥(0:Int)))) am):=by kernel_rfl
theorem Vm (b L:Bs)(a e n:Int)(j:Nat)(Q:Exit→List TV→VT→List Nat→Nat→Prop):vx prog ae (aF [(m8,ma .i64 2)]) (aZ [(999999,.dead,none),(42,.vec 1 (L++ [iT (aR 2 b e)]) (.tail 0 (L.length+1)),some λT=>{T with tails:= [(L.length+1,1,true)]})]) 300 aN none 0 (cq prog ku 2) (aQ 55 xk (Bk L n j)) ⟨[aM b a e],[(L.length,1,true)]⟩ [] (cN xk Q)=
 (bif decide ((↑j:Int)<n)
 then (((@Eq (Bool) true true)∧
 IsB (b))∧
 (bb prog (λ_=>.none) 0 ⟨[(.cells [aI,(av (aG (↑(2:Nat):Int) b e)),(ah (bC (↑(2:Nat):Int) b e a)),(ah (aH (↑(2:Nat):Int) b e))])],[((length L),(1,true))]⟩ (.call ⟨(.builtin .append),#[(.tmp 38),(.tmp 41)],#[59,59]⟩) [(38,(bS L (length L))),(41,(sB [[(.val (.int .i64 (aR (2:Nat) b e)))]]))] (bS (L++ [iT (aR (2:Nat) b e)]) (length L+(1:Nat))) ⟨[(.cells [aI,(av (aG (↑(2:Nat):Int) b e)),(ah (bC (↑(2:Nat):Int) b e a)),(ah (aH (↑(2:Nat):Int) b e))])],[((length L+(1:Nat)),(1,true))]⟩∧
 Q .normal [aE,aj,dL,(bS (L++ [iT (aR (2:Nat) b e)]) (length L+(1:Nat))),(ah n),(ah (wrap i64 ((↑j:Int)+(1:Int))))] ⟨[(.cells [aI,(av (aG (↑(2:Nat):Int) b e)),(ah (bC (↑(2:Nat):Int) b e a)),(ah (aH (↑(2:Nat):Int) b e))])],[((length L+(1:Nat)),(1,true))]⟩ [] 55))
 else Q (.exit 2) [aE,aj,dL,(bS L (length L)),(ah n),(ah (↑j:Int))] ⟨[(.cells [aI,(av b),(ah a),(ah e)])],[((length L),(1,true))]⟩ [] 55):=by kernel_rfl
abbrev xm (b:Bs)(e:Int)(a:Int):TV:=(ah (bC (↑(1:Nat):Int) (aG (↑(1:Nat):Int) b e) (aH (↑(1:Nat):Int) b e) (bC (↑(1:Nat):Int) b e a)))
abbrev xp (b:Bs)(e:Int):TV:=(av (aG (↑(1:Nat):Int) (aG (↑(1:Nat):Int) b e) (aH (↑(1:Nat):Int) b e)))
abbrev xq (b:Bs)(e:Int):TV:=(ah (aH (↑(1:Nat):Int) (aG (↑(1:Nat):Int) b e) (aH (↑(1:Nat):Int) b e)))
abbrev Vn (L:Bs)(b:Bs)(e:Int):List TV:=(Ip L (length L) (aR (1:Nat) (aG (↑(1:Nat):Int) b e) (aH (↑(1:Nat):Int) b e)))
theorem KF (b b2 b' L L':Bs)(a e a2 e2 a' e' n:Int)(Q:Exit→List TV→VT→List Nat→Nat→Prop):vx prog ae (aF [(kK,nR),(i7,ma .i64 1)]) (aZ [(999999,.dead,none)]) 300 (Vk b2 b' L L' a2 e2 a' e' n (aD prog ku 2)) none 0 (cq prog ku 0) (aQ 55 Bi (Bj L)) ⟨[aM b a e],[(L.length,1,true)]⟩ [] (cN Bi Q)=
 (((@Eq (Bool) true true)∧
 IsB (b))∧
 (bif decide (bw b e>(0:Int))
 then (((@Eq (Bool) true true)∧
 IsB (b))∧
 (((@Eq (Bool) true true)∧
 IsB (aG (↑(1:Nat):Int) b e))∧
 (bif ax neq (k6 (aR (1:Nat) b e) (1:Int))
 then (bif ax neq (k6 (aR (1:Nat) b e) (2:Int))
 then Q .ret (qj L (length L)) ⟨[(.cells [aI,(xp b e),(xm b e a),(xq b e)])],[((length L),(1,true))]⟩ [] 55
 else (bif ax eql (k6 (aR (1:Nat) (aG (↑(1:Nat):Int) b e) (aH (↑(1:Nat):Int) b e)) (0:Int))
 then Q .ret (qj L (length L)) ⟨[(.cells [aI,(xp b e),(xm b e a),(xq b e)])],[((length L),(1,true))]⟩ [] 55
 else (bif decide (wrap i64 ((↑(length L):Int)+aR (1:Nat) (aG (↑(1:Nat):Int) b e) (aH (↑(1:Nat):Int) b e))>(16:Int))
 then Q .ret (qj L (length L)) ⟨[(.cells [aI,(xp b e),(xm b e a),(xq b e)])],[((length L),(1,true))]⟩ [] 55
 else ((aD prog ku (2:Nat)=aD prog ku (2:Nat))∧
 (((@Eq (Option Nat) .none .none)∧
 ((@Eq (Nat) 0 0)∧
 ((@Eq (List Nat) [] [])∧
 (True  ∧
 ((@Eq (VT) ⟨[(.cells [aI,(xp b e),(xm b e a),(xq b e)])],[((length L),(1,true))]⟩ ⟨[(.cells [aI,(av b2),(ah a2),(ah e2)])],[((length L),(1,true))]⟩)∧
 ((@Eq (Bool) true true)∧
 (@Eq (List TV) (Vn L b e) (Ip L (length L) n))))))))∧
 Q .normal (qj L' (length L')) ⟨[(.cells [aI,(av b'),(ah a'),(ah e')])],[((length L'),(1,true))]⟩ [] 55)))))
 else (bif ax eql (k6 (aR (1:Nat) (aG (↑(1:Nat):Int) b e) (aH (↑(1:Nat):Int) b e)) (0:Int))
 then Q .ret (qj L (length L)) ⟨[(.cells [aI,(xp b e),(xm b e a),(xq b e)])],[((length L),(1,true))]⟩ [] 55
 else (bif decide (wrap i64 ((↑(length L):Int)+aR (1:Nat) (aG (↑(1:Nat):Int) b e) (aH (↑(1:Nat):Int) b e))>(16:Int))
 then Q .ret (qj L (length L)) ⟨[(.cells [aI,(xp b e),(xm b e a),(xq b e)])],[((length L),(1,true))]⟩ [] 55
 else ((aD prog ku (2:Nat)=aD prog ku (2:Nat))∧
 (((@Eq (Option Nat) .none .none)∧
 ((@Eq (Nat) 0 0)∧
 ((@Eq (List Nat) [] [])∧
 (True  ∧
 ((@Eq (VT) ⟨[(.cells [aI,(xp b e),(xm b e a),(xq b e)])],[((length L),(1,true))]⟩ ⟨[(.cells [aI,(av b2),(ah a2),(ah e2)])],[((length L),(1,true))]⟩)∧
 ((@Eq (Bool) true true)∧
 (@Eq (List TV) (Vn L b e) (Ip L (length L) n))))))))∧
 Q .normal (qj L' (length L')) ⟨[(.cells [aI,(av b'),(ah a'),(ah e')])],[((length L'),(1,true))]⟩ [] 55)))))))
 else Q (.exit 0) (qj L (length L)) ⟨[(.cells [aI,(av b),(ah a),(ah e)])],[((length L),(1,true))]⟩ [] 55)):=by kernel_rfl
theorem Zj (b:Bs)(P:Bs→Int→Prop)(N:Prop)(Q:TV→VT→Prop):ar prog ae (aF [(kJ,nj),(jy,mc),(KD,PR)]) (aZ [(999999,.dead,none)]) 300 (ptL b P N (aD prog ku 0)) 0 ku [.vec 1 b .none] am Q=
 (IsB (b)∧
 ((aD prog ku (0:Nat)=aD prog ku (0:Nat))∧
 (((@Eq (Option Nat) .none .none)∧
 ((@Eq (Nat) 0 0)∧
 ((@Eq (List Nat) [] [])∧
 (((@Eq (Option TV) (.some aE) (.some aE))∧
 True)∧
 ((@Eq (VT) ⟨[(.cells [aI,(av b),aB,aB])],[(0,(1,true))]⟩ ⟨[(.cells [aI,(av b),aB,aB])],[(0,(1,true))]⟩)∧
 ((@Eq (Bool) true true)∧
 (@Eq (List TV) [aE,aj,dL,mZ] [aE,aj,dL,mZ])))))))∧
 ((∀L:Bs,(∀bz:Bs,(∀az:Int,(∀ez:Int,((IsB (bz)∧
 P (L) (ez))→(((@Eq (Bool) true true)∧
 IsB (bz))∧
 (bif ax eql (k6 ez (0:Int))
 then (ISm (L)∧
 (bif !!has0 L
 then Q Cg ⟨[(.cells [aI,(av bz),(ah az),(ah ez)])],[((length L),(1,true))]⟩
 else Q (.tup [(bS L (length L)),aI]) ⟨[(.cells [aI,(av bz),(ah az),(ah ez)])],[((length L),(1,true))]⟩))
 else Q Cg ⟨[(.cells [aI,(av bz),(ah az),(ah ez)])],[((length L),(1,true))]⟩)))))))∧
 (∀rest:List VO,(∀tlz:List (Nat × Nat × Bool),(∀Lz:Bs,(N  →Q Cg ⟨(rest),(tlz)⟩)))))))):=by kernel_rfl
def jE:Nat→Bs→List Int→Option (Bs × List Int)
 | 0,b,l=>some (b,l)
 |k+1,b,l=>bif decide (aH 2 b 0=0)&&(!decide (aR 2 b 0=0)&& !decide (l.length=16)) then jE k (aG 2 b 0) (l++ [aR 2 b 0]) else none
def wD (b:Bs):Int:=aR 1 b 0
def df (b:Bs):Int:=aR 1 (aG 1 b 0) (aH 1 b 0)
def kw (b:Bs):Bs:=aG 1 (aG 1 b 0) (aH 1 b 0)
def Gp (b:Bs):Int:=aH 1 (aG 1 b 0) (aH 1 b 0)
def mf (b:Bs):Bool:=(decide (wD b=1) || decide (wD b=2))&& !decide (df b=0)
def iB:Nat→Bs→List Int→Option (List Int)
 | 0,_,_=>none
 |k+1,b,l=>bif decide (bw b 0>0) then (bif mf b then (match jE (df b).toNat (kw b) l with
  |some (b',l')=>iB k b' l'
  |none=>none) else none) else some l
def nr (b:Bs):Option (List Int):=iB (b.length+1) b []
def uu (b:Bs):Bool:=(nr b).isSome
def Bl (b:Bs):List Int:=(nr b).getD []
def yO (b:Bs):TV:=.tup [.vec 1 (iV (Bl b)) .none,.val (.bool (uu b))]
theorem dH (l:List Int):(iV l).length=l.length:=length_map _
theorem DT (l:List Int)(z:Int):iV (l++ [z])=iV l++ [iT z]:=by simp [iV]
theorem dm (f g:Nat→Option Nat):∀l:List Int,bk f g (iV l)=iV l
 |[]=>rfl
 |a::l=>by
  have h:=dm f g l
  simp only [iV,map_cons,bk] at h ⊢
  rw [h];rfl
theorem KG {k:Nat}{b:Bs}{e:Int}(h:¬aR k b e=0):aH k b e=0:=by
 unfold aR at h
 cases hc:cR k b e
 ·rw [hc] at h;exact absurd rfl h
 ·simp only [cR,Bool.and_eq_true,decide_eq_true_eq] at hc
  unfold aH
  rw [decide_eq_true hc.1.1,decide_eq_false (show ¬((k:Nat):Int)<0 by omega),decide_eq_true hc.2];rfl
theorem yP {b:Bs}(h:bw b 0>0):(kw b).length<b.length:=by
 have h1:=Ah h
 have h2:=nm (n:=1) (b:=aG 1 b 0) (e:=aH 1 b 0)
 unfold kw
 omega
theorem DU {b:Bs}(h:IsB b):IsB (kw b):=aK (aK h)
theorem vN:∀(k:Nat) (b:Bs) (l:List Int) (b':Bs) (l':List Int),jE k b l=some (b',l')→b'.length≤b.length∧l'.length=l.length+k
 | 0,b,l,b',l',h=>by
  simp only [jE,Option.some.injEq,Prod.mk.injEq] at h
  obtain ⟨rfl,rfl⟩:=h
  exact ⟨le_refl _,rfl⟩
 |k+1,b,l,b',l',h=>by
  unfold jE at h
  cases hc:(decide (aH 2 b 0=0)&&(!decide (aR 2 b 0=0)&& !decide (l.length=16)))<;>rw [hc] at h
  ·cases h
  ·obtain ⟨h1,h2⟩:=vN k _ _ _ _ h
   have h3:=nm (n:=2) (b:=b) (e:=0)
   refine ⟨le_trans h1 h3,?_⟩
   rw [h2,length_append,length_cons,length_nil];omega
theorem DV:∀(k:Nat) (b:Bs) (l:List Int) (b':Bs) (l':List Int),l.length≤16→jE k b l=some (b',l')→l'.length≤16
 | 0,b,l,b',l',h0,h=>by
  simp only [jE,Option.some.injEq,Prod.mk.injEq] at h
  rw [←h.2];exact h0
 |k+1,b,l,b',l',h0,h=>by
  unfold jE at h
  cases hc:(decide (aH 2 b 0=0)&&(!decide (aR 2 b 0=0)&& !decide (l.length=16)))<;>rw [hc] at h
  ·cases h
  ·simp only [Bool.and_eq_true,Bool.not_eq_true',decide_eq_false_iff_not] at hc
   exact DV k _ _ _ _ (by rw [length_append,length_cons,length_nil];omega) h
theorem DW {k:Nat}{b:Bs}{l:List Int}(h0:l.length≤16)(h:l.length+k>16):jE k b l=none:=by
 cases hc:jE k b l with
 |none=>rfl
 |some p=>
  obtain ⟨b',l'⟩:=p
  have h1:=(vN k b l b' l' hc).2
  have h2:=DV k b l b' l' h0 hc
  omega
theorem Bm:∀(k j:Nat) (b:Bs) (l:List Int),b.length<k→b.length<j→iB k b l=iB j b l
 | 0,_,_,_,h,_=>absurd h (not_lt_zero _)
 |_,0,_,_,_,h=>absurd h (not_lt_zero _)
 |k+1,j+1,b,l,h1,h2=>by
  unfold iB
  by_cases hl:bw b 0>0
  ·have hb:=yP hl
   rw [decide_eq_true hl]
   cases hi:jE (df b).toNat (kw b) l with
   |none=>rfl
   |some p=>
    obtain ⟨b',l'⟩:=p
    have h3:=(vN _ _ _ _ _ hi).1
    simp only [Bm k j b' l' (by omega) (by omega)]
  ·rw [decide_eq_false hl];rfl
theorem xr {b:Bs}{l:List Int}(hl:bw b 0>0)(hh:mf b=false):iB (b.length+1) b l=none:=by
 simp only [iB,decide_eq_true hl,hh,cond_true,cond_false]
theorem uw {b:Bs}{l:List Int}(hl:bw b 0>0)(hi:jE (df b).toNat (kw b) l=none):iB (b.length+1) b l=none:=by
 simp only [iB,decide_eq_true hl,hi,cond_true]
 cases mf b<;>rfl
theorem KH {b b':Bs}{l l':List Int}(hl:bw b 0>0)(hh:mf b=true)(hi:jE (df b).toNat (kw b) l=some (b',l')):iB (b.length+1) b l=iB (b'.length+1) b' l':=by
 have h1:=yP hl
 have h2:=(vN _ _ _ _ _ hi).1
 rw [Bm (b'.length+1) b.length b' l' (by omega) (by omega)]
 simp only [iB,decide_eq_true hl,hh,hi,cond_true]
theorem Or {b:Bs}{l:List Int}(hl:¬bw b 0>0):iB (b.length+1) b l=some l:=by
 simp only [iB,decide_eq_false hl,cond_false]
def cC:Nat→Bs × Int × Int × List Int→Bs × Int × Int × List Int
 | 0,s=>s
 |k+1,(b,a,e,l)=>cC k (aG 2 b e,bC 2 b e a,aH 2 b e,l++ [aR 2 b e])
theorem DX:∀(k:Nat) (s:Bs × Int × Int × List Int),IsB s.1→IsB (cC k s).1∧(cC k s).1.length≤s.1.length∧(cC k s).2.2.2.length=s.2.2.2.length+k
 | 0,s,h=>⟨h,le_refl _,rfl⟩
 |k+1,(b,a,e,l),h=>by
  obtain ⟨h1,h2,h3⟩:=DX k (aG 2 b e,bC 2 b e a,aH 2 b e,l++ [aR 2 b e]) (aK h)
  have h4:=nm (n:=2) (b:=b) (e:=e)
  simp only [length_append,length_cons,length_nil] at h2 h3
  refine ⟨h1,?_,?_⟩
  ·simp only [cC];omega
  ·simp only [cC];omega
theorem Vo {n:Int}{b:Bs}{e:Int}(h:¬e=0):aH n b e=e:=by unfold aH;rw [decide_eq_false h];rfl
theorem Gq:∀(k:Nat) (s:Bs × Int × Int × List Int),¬s.2.2.1=0→¬(cC k s).2.2.1=0
 | 0,_,h=>h
 |k+1,(b,a,e,l),h=>by
  simp only [cC]
  exact Gq k _ (by simp only;rw [Vo h];exact h)
theorem sH:∀(k:Nat) (s:Bs × Int × Int × List Int),0∈s.2.2.2→0∈(cC k s).2.2.2
 | 0,_,h=>h
 |k+1,(b,a,e,l),h=>by
  simp only [cC]
  exact sH k _ (List.mem_append_left _ h)
theorem KI:∀(k:Nat) (b:Bs) (a:Int) (l:List Int),l.length+k≤16→(∃b' l',jE k b l=some (b',l')∧(cC k (b,a,0,l)).1=b'∧(cC k (b,a,0,l)).2.2.1=0∧(cC k (b,a,0,l)).2.2.2=l'∧(¬0∈l→¬0∈l'))∨
  (jE k b l=none∧(¬(cC k (b,a,0,l)).2.2.1=0∨0∈(cC k (b,a,0,l)).2.2.2))
 | 0,b,a,l,_=>.inl ⟨b,l,rfl,rfl,rfl,rfl,λh=>h⟩
 |k+1,b,a,l,h=>by
  have h16:¬l.length=16:=by omega
  by_cases he:aH 2 b 0=0
  ·by_cases hz:aR 2 b 0=0
   ·refine .inr ⟨by simp only [jE,decide_eq_true he,decide_eq_true hz,Bool.not_true,Bool.false_and,Bool.and_false,cond_false],.inr ?_⟩
    simp only [cC]
    refine sH k _ (List.mem_append_right _ ?_)
    rw [show aR 2 b 0=0 from hz];exact mem_cons_self
   ·have e1:jE (k+1) b l=jE k (aG 2 b 0) (l++ [aR 2 b 0]):=by
     simp only [jE,decide_eq_true he,decide_eq_false hz,decide_eq_false h16,Bool.not_false,Bool.and_self,cond_true]
    have e2:cC (k+1) (b,a,0,l)=cC k (aG 2 b 0,bC 2 b 0 a,0,l++ [aR 2 b 0]):=by
     show cC k (aG (2:Int) b 0,bC 2 b 0 a,aH 2 b 0,l++ [aR 2 b 0])=_
     rw [he]
    rw [e1,e2]
    rcases KI k (aG 2 b 0) (bC 2 b 0 a) (l++ [aR 2 b 0]) (by rw [length_append,length_cons,length_nil];omega) with ⟨b',l',g1,g2,g3,g4,g5⟩ | g
    ·refine .inl ⟨b',l',g1,g2,g3,g4,λhn=>g5 λhm=> ?_⟩
     rcases mem_append.1 hm with hm | hm
     ·exact hn hm
     ·exact hz (mem_singleton.1 hm).symm
    ·exact .inr g
  ·refine .inr ⟨by simp only [jE,decide_eq_false he,Bool.false_and,cond_false],.inl ?_⟩
   simp only [cC]
   exact Gq k _ he
theorem Gs (l:List Int):has0 (iV l)=decide (0∈l):=by
 induction l with
 |nil=>rfl
 |cons a l ih=>
  have e:has0 (iV (a::l))=(decide (a=0) || has0 (iV l)):=rfl
  rw [e,ih]
  by_cases ha:a=0
  ·subst ha;simp
  ·have:¬(0:Int)=a:=λh=>ha h.symm
   simp [ha,this]
theorem DY:∃inf:TypeInfo,prog.info? 3=some inf∧inf.size=1∧inf.bytes+1≤1000∧inf.zero=some (.int .i64 0):=
 ⟨(prog.info? 3).getD default,by kernel_rfl,by kernel_rfl,Nat.le_of_ble_eq_true (by kernel_rfl),by kernel_rfl⟩
theorem Ot {ro:Nat}{T T1:VT}{s x:Operand}{l:List (Nat × TV)}{es es2:List (List TV)}{k n:Nat}{bn:Bool}(hs:cM T 1 (aP ae l s)=some (es,k,n,bn,T1))(hx:fP 1 (aP ae l x)=some es2)(hb:es.length+es2.length≤64000001):
    bb prog ae ro T (.call ⟨.builtin .append,#[s,x],#[59,59]⟩) l (.vec 1 (es++es2) (.tail k (n+es2.length))) {T1 with tails:=T1.tails.set k (n+es2.length,1,bn)}:=by
  obtain ⟨inf,i1,i2,i3,i4⟩:=DY
  have h:=eQ (inf:=inf) (P:=prog) (G:=ae) (ro:=ro) (T:=T) (T1:=T1) (t:=59) (tx:=59) (s:=s) (x:=x) (l:=l) (es:=es) (es2:=es2) (k:=k) (n:=n) (bn:=bn) Tryz.underlying59 i1 i4 (by rw [i2];rfl) (by rw [i2];decide) (by kernel_rfl) (by rw [i2];exact hs) (by rw [i2];exact hx)
    (by have h1:=i3
        have h2:=Nat.mul_le_mul hb h1
        omega)
  rw [i2] at h
  exact h
theorem kO {x i:Operand}{l:List (Nat × TV)}{b:Bs}{tok:Tok}{k:IntKind}{z:Int}{e:List TV}(hx:aP ae l x=.vec 1 b tok)(hz:aP ae l i=.val (.int k z))(h0:0≤z)(he:b[z.toNat]?=some e):
  bc prog ae (.indexAddr 59 x i) l (.elt e):=by
 obtain ⟨inf,i1,i2,_,_⟩:=DY
 exact dy (inf:=inf) Tryz.underlying59 i1 (by rw [i2];exact hx) hz h0 he
def wE (l:List Int)(v:Int):Int:=match l.findIdx? (λz=>decide (v=z)) with
 |some k=>k
 |none=>-1
theorem Vp (l:List Int)(hl:l.length≤1000)(v:Int):VCx prog ae 0 yN [.vec 1 (iV l) .none,.val (.int .i64 v)] ⟨[],[]⟩ λx T'=>x=.val (.int .i64 (wE l v))∧T'=⟨[],[]⟩:=by
 have hloop:dd prog ae (ixL (iV l) v (wE l v) (wE l v) (l.findIdx? (λz=>decide (v=z))).isSome (aD prog yN 0)):=bA λp hp=>by
  obtain rfl:=mem_singleton.1 hp
  refine b9 λK hK=> ?_
  let Post:Exit→List TV→VT→Prop:=λe vs T=>(∃k:Nat,l.findIdx? (λz=>decide (v=z))=some k∧e=.ret∧vs=Bh (iV l) v k k∧T=⟨[],[]⟩)∨(l.findIdx? (λz=>decide (v=z))=none∧e=.normal∧vs=Bh (iV l) v 0 l.length∧T=⟨[],[]⟩)
  refine dO (f:=yN) (id:=0) (by kernel_rfl) 19 Gn (λj:Nat=>l.length-j) (λj=>Bh (iV l) v 0 j) (λ_=>⟨[],[]⟩) (λj=>j≤l.length∧∀k z,k<j→l[k]?=some z→v≠z) 0 0 (λ_ _=>⟨le_refl _,le_refl _⟩)
   Post (λj hj=> ?_) 0 ⟨zero_le _,λk _ hk=>absurd hk (not_lt_zero k)⟩ K (λe vs T hq=> ?_)
  ·obtain ⟨hj,hne⟩:=hj
   by_cases hlt:j<l.length
   ·have hs:l[j]?=some l[j]:=getElem?_eq_getElem hlt
    generalize hzz:l[j]=z at hs
    have hw:=Hv j (by omega)
    refine bF ac aa an ai (KE (iV l) v 0 z j _) ?_
    refine aS (decide_eq_true (by rw [dH];omega)) ⟨kO rfl rfl (Int.natCast_nonneg _) (by rw [Int.toNat_natCast];simp only [iV,getElem?_map,hs];rfl),?_⟩
    by_cases he:v=z
    ·refine aS (by rw [gH];exact decide_eq_true he) ⟨rfl,rfl,.inl ⟨j,?_,rfl,rfl,rfl⟩⟩
     refine List.findIdx?_eq_some_iff_getElem.2 ⟨hlt,by rw [hzz];exact decide_eq_true he,λk hk=> ?_⟩
     have:=hne k _ hk (getElem?_eq_getElem (by omega))
     simpa using this
    ·refine aO (by rw [gH];exact decide_eq_false he) ⟨rfl,rfl,j+1,⟨hlt,λk z' hk hz'=> ?_⟩,by simp only;omega,.inr ⟨rfl,?_⟩⟩
     ·rcases Nat.lt_or_ge k j with h | h
      ·exact hne k z' h hz'
      ·obtain rfl:k=j:=by omega
       rw [hs] at hz';injection hz' with hz';subst hz';exact he
     ·rw [hw]
      simp only [ap,TV.ren,dm,Tok.ren,Bh]
   ·obtain rfl:j=l.length:=by omega
    refine bF ac aa an ai (KE (iV l) v 0 0 l.length _) ?_
    refine aO (decide_eq_false (by rw [dH];omega)) ⟨rfl,rfl,.inr ⟨?_,rfl,rfl,rfl⟩⟩
    refine List.findIdx?_eq_none_iff.2 λz hz=> ?_
    obtain ⟨k,hk,rfl⟩:=List.getElem_of_mem hz
    simpa using hne k _ hk (getElem?_eq_getElem hk)
  ·rcases hq with ⟨k,h1,rfl,rfl,rfl⟩ | ⟨h1,rfl,rfl,rfl⟩
   ·simp only [h1,isSome_some,cond_true,wE] at hK
    exact hK
   ·simp only [h1,isSome_none,cond_false,dH] at hK
    exact hK
 refine ak ac aa an hloop (Zh (iV l) v (wE l v) (wE l v) _ _) ⟨rfl,⟨rfl,rfl,rfl,trivial,rfl,rfl,rfl⟩,?_⟩
 unfold wE
 cases h:l.findIdx? (λz=>decide (v=z)) with
 |none=>exact aO rfl ⟨rfl,rfl⟩
 |some k=>exact aS rfl ⟨rfl,rfl⟩
theorem Zk (l:List Int):decide (wE l 0≥0)=decide (0∈l):=by
 unfold wE
 cases h:l.findIdx? (λz=>decide (0=z)) with
 |none=>
  have h1:=List.findIdx?_eq_none_iff.1 h
  have h2:¬(0:Int)∈l:=λhm=>by simpa using h1 0 hm
  simp [h2]
 |some k=>
  obtain ⟨hk,h1,_⟩:=List.findIdx?_eq_some_iff_getElem.1 h
  have h2:(0:Int)∈l:=by
   have e:(0:Int)=l[k]:=of_decide_eq_true h1
   rw [e];exact List.getElem_mem hk
  have h3:((k:Nat):Int)≥0:=by omega
  rw [decide_eq_true h2];exact decide_eq_true h3
theorem Vq (l:List Int)(hl:l.length≤1000):VCx prog ae 0 KD [.vec 1 (iV l) .none,.val (.int .i64 0)] ⟨[],[]⟩ λx T'=>x=.val (.bool (has0 (iV l)))∧T'=⟨[],[]⟩:=by
 refine ak ac aa (aL λp hp=>by
  obtain rfl:=mem_singleton.1 hp
  exact Kc au (by simp [ap,TV.ren,dm,Tok.ren]) (λ_ _=>rfl) (Vp l hl 0)) ai (Zi (iV l) 0 (wE l 0) _) ⟨rfl,?_,rfl⟩
 rw [Gs,Zk]
theorem Vr:∀ro ys T K,PR ro ys T K→VCx prog ae ro KD ys T K:=by
 intro ro ys T K hw
 unfold PR at hw
 split at hw
 ·rename_i L tok
  obtain ⟨⟨l,rfl,hl⟩,hk⟩:=hw
  exact VCx.loosePure au (Vq l hl) (by simp [cj]) (by simp [ap,TV.ren,dm,Tok.ren]) (λf h=>rfl) hk
 ·exact hw.elim
--bumped 32
abbrev qM:=Bs × Int × Int × List Int
theorem KJ (s0:qM)(h0:IsB s0.1)(n:Nat)(hn:s0.2.2.2.length+n≤1000)(K:KX)
  (hK:K .normal (aQ 55 xk (Bk (iV (cC n s0).2.2.2) n n)) ⟨[aM (cC n s0).1 (cC n s0).2.1 (cC n s0).2.2.1],[((iV (cC n s0).2.2.2).length,1,true)]⟩ []):
  VWx prog ae none 0 (aD prog ku 2) (aQ 55 xk (Bk (iV s0.2.2.2) n 0)) ⟨[aM s0.1 s0.2.1 s0.2.2.1],[((iV s0.2.2.2).length,1,true)]⟩ [] K:=by
 let sl:Nat × qM→List TV:=λs=>Bk (iV s.2.2.2.2) n s.1
 let TT:Nat × qM→VT:=λs=>⟨[aM s.2.1 s.2.2.1 s.2.2.2.1],[((iV s.2.2.2.2).length,1,true)]⟩
 let Post:Exit→List TV→VT→Prop:=λe vs T=>e=.normal∧vs=Bk (iV (cC n s0).2.2.2) n n∧T=⟨[aM (cC n s0).1 (cC n s0).2.1 (cC n s0).2.2.1],[((iV (cC n s0).2.2.2).length,1,true)]⟩
 refine dO (f:=ku) (id:=2) (by kernel_rfl) 55 xk (λs:Nat × qM=>n-s.1) sl TT (λs=>s.1≤n∧IsB s.2.1∧s.2.2.2.2.length=s0.2.2.2.length+s.1∧cC (n-s.1) s.2=cC n s0) 1 1 (λ_ _=>⟨le_refl _,le_refl _⟩)
  Post (λs hs=> ?_) (0,s0) ⟨zero_le _,h0,rfl,rfl⟩ K (λe vs T ⟨h1,h2,h3⟩=>by subst h1 h2 h3;exact hK)
 obtain ⟨j,b,a,e,l⟩:=s
 obtain ⟨hj,hb,hlen,hgo⟩:=hs
 simp only at hj hb hlen hgo
 have hS:bf prog ae (aF [(m8,ma .i64 2)]):=aL λp hp=>by obtain rfl:=mem_singleton.1 hp;exact vI
 refine bF ac aa hS ai (Vm b (iV l) a e n j _) ?_
 by_cases hlt:j<n
 ·have hw:=Hv j (by omega)
  refine aS (decide_eq_true (by omega)) ⟨⟨rfl,hb⟩,?_,rfl,rfl,(j+1,aG 2 b e,bC 2 b e a,aH 2 b e,l++ [aR 2 b e]),⟨hlt,aK hb,by simp only [length_append,length_cons,length_nil];omega,?_⟩,by simp only;omega,.inr ⟨?_,?_⟩⟩
  ·have h:=Ot (ro:=0) (T:=⟨[aM (aG 2 b e) (bC 2 b e a) (aH 2 b e)],[((iV l).length,1,true)]⟩) (T1:=⟨[aM (aG 2 b e) (bC 2 b e a) (aH 2 b e)],[((iV l).length,1,true)]⟩) (s:=.tmp 38) (x:=.tmp 41) (l:= [(38,.vec 1 (iV l) (.tail 0 (iV l).length)),(41,.vec 1 [iT (aR 2 b e)] .full)]) (es:=iV l) (es2:= [iT (aR 2 b e)]) (k:=0) (n:=(iV l).length) (bn:=true)
    (by simp [aP,eO,cM]) rfl (by rw [dH];simp only [length_cons,length_nil];omega)
   exact h
  ·rw [←hgo,show n-j=(n-(j+1))+1 by omega];rfl
  ·refine (show VT.keep ⟨aM (aG 2 b e) (bC 2 b e a) (aH 2 b e)::_,_⟩ 1 1=_ from ?_)
   simp only [VT.keep,take_succ_cons,take_zero,map_cons,map_nil,bH (aK hb)]
   simp only [TT,DT,length_append,length_cons,length_nil]
  ·have e2:=dm (aA 1) (aA 1) (l++ [aR 2 b e])
   rw [DT] at e2
   have e3:bk (aA 1) (aA 1) (iV l++ [iT (aR ((2:Nat)) b e)])=iV l++ [iT (aR 2 b e)]:=e2
   rw [hw]
   simp only [ap,TV.ren,e3,Tok.ren]
   simp only [sl,Bk,DT,length_append,length_cons,length_nil]
   rfl
 ·obtain rfl:j=n:=by omega
  rw [Nat.sub_self] at hgo
  refine aO (decide_eq_false (by omega)) ⟨rfl,rfl,rfl,?_,?_⟩
  ·rw [←hgo];rfl
  ·rw [←hgo];rfl
def PInv (b0 b:Bs)(e:Int)(l:List Int):Prop:=l.length≤16∧((e=0∧¬0∈l∧iB (b.length+1) b l=nr b0)∨((¬e=0∨0∈l)∧nr b0=none))
def DZ (b0:Bs)(L:Bs)(ez:Int):Prop:=∃l:List Int,L=iV l∧l.length≤16∧((ez=0∧¬0∈l∧nr b0=some l)∨((¬ez=0∨0∈l)∧nr b0=none))
def KK (b0:Bs)(ex:Exit)(vs:List TV)(T:VT):Prop:=
 (∃(L bz:Bs) (az ez:Int),(IsB bz∧DZ b0 L ez)∧ex=.normal∧vs=Bj L∧T=⟨[aM bz az ez],[(L.length,1,true)]⟩)∨
 (∃(rest:List VO) (tlz:List (Nat × Nat × Bool)) (Lz:Bs),nr b0=none∧ex=.ret∧vs=Bj Lz∧T=⟨rest,tlz⟩)
theorem KL {b0:Bs}{K:KX}(hK:Vl (DZ b0) (nr b0=none) K){ex:Exit}{vs:List TV}{T:VT}(h:KK b0 ex vs T):K ex (aQ 55 Bi vs) T []:=by
 rcases h with ⟨L,bz,az,ez,h1,rfl,rfl,rfl⟩ | ⟨rest,tlz,Lz,h1,rfl,rfl,rfl⟩
 ·exact hK.1 L bz az ez h1
 ·exact hK.2 rest tlz Lz h1
theorem PInv.ret {b0 b:Bs}{l:List Int}(h:PInv b0 b 0 l)(hn:iB (b.length+1) b l=none):nr b0=none:=by
 rcases h.2 with ⟨_,_,h3⟩ | ⟨_,h3⟩
 ·rw [←h3];exact hn
 ·exact h3
theorem PInv.step {b0 b:Bs}{l:List Int}(h:PInv b0 b 0 l)(hl:bw b 0>0)(hh:mf b=true)(h16:l.length+(df b).toNat≤16)(a:Int):PInv b0 (cC (df b).toNat (kw b,a,0,l)).1 (cC (df b).toNat (kw b,a,0,l)).2.2.1 (cC (df b).toNat (kw b,a,0,l)).2.2.2:=by
 have hln:∀(k:Nat) (s:qM),(cC k s).2.2.2.length=s.2.2.2.length+k:=by
  intro k
  induction k with
  |zero=>intro s;rfl
  |succ k ih=>
   rintro ⟨b,a,e,l⟩
   simp only [cC]
   rw [ih]
   simp only [length_append,length_cons,length_nil];omega
 refine ⟨by rw [hln];exact h16,?_⟩
 rcases h.2 with ⟨_,h2,h3⟩ | ⟨h2,h3⟩
 ·rcases KI (df b).toNat (kw b) a l h16 with ⟨b',l',g1,g2,g3,g4,g5⟩ | ⟨g1,g2⟩
  ·refine .inl ⟨g3,by rw [g4];exact g5 h2,?_⟩
   rw [g2,g4,←KH hl hh g1];exact h3
  ·exact .inr ⟨g2,by rw [←h3];exact uw hl g1⟩
 ·refine .inr ⟨.inr ?_,h3⟩
  rcases h2 with h2 | h2
  ·exact absurd rfl h2
  ·exact sH _ _ h2
theorem D0 (s0:qM)(h0:IsB s0.1)(n:Int)(h1:0≤n)(hn:s0.2.2.2.length+n.toNat≤1000):dd prog ae (Vk s0.1 (cC n.toNat s0).1 (iV s0.2.2.2) (iV (cC n.toNat s0).2.2.2) s0.2.1 s0.2.2.1 (cC n.toNat s0).2.1 (cC n.toNat s0).2.2.1 n (aD prog ku 2)):=bA λp hp=>by
 obtain rfl:=mem_singleton.1 hp
 refine b9 λK hK=> ?_
 have h:=KJ s0 h0 n.toNat hn K
 rw [show ((n.toNat:Nat):Int)=n by omega] at h
 exact h hK
theorem PS {b:Bs}(hb:IsB b)(a e:Int)(k:Nat):VT.keep ⟨[aM b a e],[(k,1,true)]⟩ 1 1=⟨[aM b a e],[(k,1,true)]⟩:=by
 simp only [VT.keep,take_succ_cons,take_zero,map_cons,map_nil,bH hb]
theorem dgt {l:List Int}{n:Int}(hwr:wrap .i64 ((l.length:Int)+n)=(l.length:Int)+n)(h:decide (wrap .i64 (((iV l).length:Int)+n)>16)=true):(l.length:Int)+n>16:=by
 rw [dH,hwr] at h;exact of_decide_eq_true h
theorem dle {l:List Int}{n:Int}(hwr:wrap .i64 ((l.length:Int)+n)=(l.length:Int)+n)(h:decide (wrap .i64 (((iV l).length:Int)+n)>16)=false):¬(l.length:Int)+n>16:=by
 rw [dH,hwr] at h;exact of_decide_eq_false h
theorem Ou {b0:Bs}(h0:IsB b0)(K:KX)(hK:Vl (DZ b0) (nr b0=none) K):VWx prog ae none 0 (aD prog ku 0) (aQ 55 Bi (Bj [])) ⟨[aM b0 0 0],[(0,1,true)]⟩ [] K:=by
 let sl:qM→List TV:=λs=>Bj (iV s.2.2.2)
 let TT:qM→VT:=λs=>⟨[aM s.1 s.2.1 s.2.2.1],[((iV s.2.2.2).length,1,true)]⟩
 refine dO (f:=ku) (id:=0) (by kernel_rfl) 55 Bi (λs:qM=>s.1.length) sl TT (λs=>IsB s.1∧PInv b0 s.1 s.2.2.1 s.2.2.2) 1 1 (λ_ _=>⟨le_refl _,le_refl _⟩)
  (KK b0) (λs hs=> ?_) (b0,0,0,[]) ⟨h0,⟨zero_le _,.inl ⟨rfl,by simp,rfl⟩⟩⟩ K (λe vs T h=>KL hK h)
 obtain ⟨b,a,e,l⟩:=s
 obtain ⟨hb,hI⟩:=hs
 simp only at hb hI
 have hS:bf prog ae (aF [(kK,nR),(i7,ma .i64 1)]):=aL λp hp=>by
  rcases mem_cons.1 hp with rfl | hp;exact pj
  obtain rfl:=mem_singleton.1 hp;exact rt
 by_cases hl:bw b e>0
 ·obtain ⟨rfl,_⟩:=Kt hl
  let S0:qM:=(kw b,bC 1 (aG 1 b 0) (aH 1 b 0) (bC 1 b 0 a),Gp b,l)
  have hnb:0≤df b∧df b<256:=DI (aK hb) _
  have hnb2:0≤aR 1 (aG 1 b 0) (aH 1 b 0)∧aR 1 (aG 1 b 0) (aH 1 b 0)<256:=hnb
  have hl16:=hI.1
  have hwr:wrap .i64 ((l.length:Int)+df b)=(l.length:Int)+df b:=b6 (by omega) (by omega)
  refine bF ac aa hS (D0 S0 (DU hb) (df b) hnb.1 (show l.length+(df b).toNat≤1000 by omega)) (KF b (kw b) (cC (df b).toNat S0).1 (iV l) (iV (cC (df b).toNat S0).2.2.2) a 0 (bC 1 (aG 1 b 0) (aH 1 b 0) (bC 1 b 0 a)) (Gp b) (cC (df b).toNat S0).2.1 (cC (df b).toNat S0).2.2.1 (df b) _) ?_
  refine ⟨⟨rfl,hb⟩,?_⟩
  refine aS (decide_eq_true hl) ⟨⟨rfl,hb⟩,⟨rfl,aK hb⟩,?_⟩
  refine aq (λc1=> ?_) (λc1=> ?_)
  ·refine aq (λc1b=> ?_) (λc1b=> ?_)
   ·have hH:mf b=false:=by
     unfold mf wD
     rw [decide_eq_false (show ¬aR 1 b 0=1 from fp c1),decide_eq_false (show ¬aR 1 b 0=2 from fp c1b)];rfl
    exact ⟨rfl,rfl,.inr ⟨_,_,iV l,hI.ret (xr hl hH),rfl,rfl,rfl⟩⟩
   ·have hC:(decide (wD b=1) || decide (wD b=2))=true:=by rw [decide_eq_true (show wD b=2 from fq c1b),Bool.or_true]
    refine aq (λc2=> ?_) (λc2=> ?_)
    ·have hH:mf b=false:=by unfold mf df;rw [decide_eq_true (show aR 1 (aG 1 b 0) (aH 1 b 0)=0 from dM c2)];simp
     exact ⟨rfl,rfl,.inr ⟨_,_,iV l,hI.ret (xr hl hH),rfl,rfl,rfl⟩⟩
    have d2:¬df b=0:=dq c2
    refine aq (λc3=> ?_) (λc3=> ?_)
    ·have d3:(l.length:Int)+df b>16:=dgt hwr c3
     exact ⟨rfl,rfl,.inr ⟨_,_,iV l,hI.ret (uw hl (DW hI.1 (by omega))),rfl,rfl,rfl⟩⟩
    have d3:¬(l.length:Int)+df b>16:=dle hwr c3
    have h16:l.length+(df b).toNat≤16:=by omega
    have hE:Gp b=0:=KG d2
    have hH:mf b=true:=by unfold mf;rw [decide_eq_false d2,hC];rfl
    have hst:=hI.step hl hH h16 (bC 1 (aG 1 b 0) (aH 1 b 0) (bC 1 b 0 a))
    have hps:cC (df b).toNat (kw b,bC 1 (aG 1 b 0) (aH 1 b 0) (bC 1 b 0 a),0,l)=cC (df b).toNat S0:=by
     show cC (df b).toNat (kw b,bC 1 (aG 1 b 0) (aH 1 b 0) (bC 1 b 0 a),0,l)=cC (df b).toNat (kw b,bC 1 (aG 1 b 0) (aH 1 b 0) (bC 1 b 0 a),Gp b,l)
     rw [hE]
    rw [hps] at hst
    obtain ⟨i1,i2,_⟩:=DX (df b).toNat S0 (DU hb)
    have hlt:=yP hl
    refine ⟨rfl,⟨rfl,rfl,rfl,trivial,rfl,rfl,rfl⟩,rfl,rfl,cC (df b).toNat S0,⟨i1,hst⟩,Nat.lt_of_le_of_lt i2 hlt,.inr ⟨?_,?_⟩⟩
    ·exact PS i1 _ _ _
    ·have e2:=dm (aA 1) (aA 1) (cC (df b).toNat S0).2.2.2
     simp only [ap,TV.ren,e2,Tok.ren]
     rfl
  ·have hC:(decide (wD b=1) || decide (wD b=2))=true:=by rw [decide_eq_true (show wD b=1 from fq c1),Bool.true_or]
   refine aq (λc2=> ?_) (λc2=> ?_)
   ·have hH:mf b=false:=by unfold mf df;rw [decide_eq_true (show aR 1 (aG 1 b 0) (aH 1 b 0)=0 from dM c2)];simp
    exact ⟨rfl,rfl,.inr ⟨_,_,iV l,hI.ret (xr hl hH),rfl,rfl,rfl⟩⟩
   have d2:¬df b=0:=dq c2
   refine aq (λc3=> ?_) (λc3=> ?_)
   ·have d3:(l.length:Int)+df b>16:=dgt hwr c3
    exact ⟨rfl,rfl,.inr ⟨_,_,iV l,hI.ret (uw hl (DW hI.1 (by omega))),rfl,rfl,rfl⟩⟩
   have d3:¬(l.length:Int)+df b>16:=dle hwr c3
   have h16:l.length+(df b).toNat≤16:=by omega
   have hE:Gp b=0:=KG d2
   have hH:mf b=true:=by unfold mf;rw [decide_eq_false d2,hC];rfl
   have hst:=hI.step hl hH h16 (bC 1 (aG 1 b 0) (aH 1 b 0) (bC 1 b 0 a))
   have hps:cC (df b).toNat (kw b,bC 1 (aG 1 b 0) (aH 1 b 0) (bC 1 b 0 a),0,l)=cC (df b).toNat S0:=by
    show cC (df b).toNat (kw b,bC 1 (aG 1 b 0) (aH 1 b 0) (bC 1 b 0 a),0,l)=cC (df b).toNat (kw b,bC 1 (aG 1 b 0) (aH 1 b 0) (bC 1 b 0 a),Gp b,l)
    rw [hE]
   rw [hps] at hst
   obtain ⟨i1,i2,_⟩:=DX (df b).toNat S0 (DU hb)
   have hlt:=yP hl
   refine ⟨rfl,⟨rfl,rfl,rfl,trivial,rfl,rfl,rfl⟩,rfl,rfl,cC (df b).toNat S0,⟨i1,hst⟩,Nat.lt_of_le_of_lt i2 hlt,.inr ⟨?_,?_⟩⟩
   ·exact PS i1 _ _ _
   ·have e2:=dm (aA 1) (aA 1) (cC (df b).toNat S0).2.2.2
    simp only [ap,TV.ren,e2,Tok.ren]
    rfl
 ·refine bF ac aa hS (D0 (b,a,e,l) hb 0 (Int.le_refl _) (show l.length+0≤1000 by have:=hI.1;omega)) (KF b b b (iV l) (iV l) a e a e a e 0 _) ?_
  refine ⟨⟨rfl,hb⟩,aO (decide_eq_false hl) ⟨rfl,rfl,.inl ⟨iV l,b,a,e,⟨hb,l,rfl,hI.1,?_⟩,rfl,rfl,rfl⟩⟩⟩
  rcases hI.2 with ⟨rfl,h2,h3⟩ | h
  ·exact .inl ⟨rfl,h2,by rw [←h3];exact Or hl⟩
  ·exact .inr h
theorem Sg {b:Bs}(h:IsB b):dd prog ae (ptL b (DZ b) (nr b=none) (aD prog ku 0)):=bA λp hp=>by
 obtain rfl:=mem_singleton.1 hp
 exact b9 λK hK=>Ou h K hK
theorem D3 {b:Bs}(h:nr b=none):TVle (.tup [.val (.slice none 0 0),.val (.bool false)]) (yO b):=by
 unfold yO uu Bl
 rw [h]
 exact .tup ⟨.nil 1,.refl _,trivial⟩
theorem Sh {b:Bs}{l:List Int}(h:nr b=some l)(tok:Tok):TVle (.tup [.vec 1 (iV l) tok,.val (.bool true)]) (yO b):=by
 unfold yO uu Bl
 rw [h]
 exact .tup ⟨.vec 1 _ _,.refl _,trivial⟩
theorem Vs {b:Bs}(hb:IsB b):VCx prog ae 0 ku [.vec 1 b .none] ⟨[],[]⟩ λx T'=>x=yO b∧T'=⟨[],[]⟩:=by
 have hS:bf prog ae (aF [(kJ,nj),(jy,mc),(KD,PR)]):=aL λp hp=>by
  rcases mem_cons.1 hp with rfl | hp;exact vH
  rcases mem_cons.1 hp with rfl | hp;exact ru
  obtain rfl:=mem_singleton.1 hp;exact Vr
 refine VCx.toLe (Q:=λT'=>T'=⟨[],[]⟩) (VCx.keepQ 0 0 (le_refl _) (le_refl _) (ak ac aa hS (Sg hb) (Zj b (DZ b) (nr b=none) _) ?_))
 refine ⟨hb,rfl,⟨rfl,rfl,rfl,⟨rfl,trivial⟩,rfl,rfl,rfl⟩,?_,λrest tlz Lz hN=>⟨D3 hN,rfl⟩⟩
 rintro L bz az ez ⟨hbz,l,rfl,h16,hd⟩
 refine ⟨⟨rfl,hbz⟩,?_⟩
 refine aq (λc1=> ?_) (λc1=> ?_)
 ·have he:=dM c1
  refine ⟨⟨l,rfl,by omega⟩,?_⟩
  rw [Gs]
  rcases hd with ⟨_,h2,h3⟩ | ⟨h2,h3⟩
  ·rw [decide_eq_false h2]
   refine ⟨?_,rfl⟩
   simp only [TV.ren,ap,dm]
   exact Sh h3 _
  ·have h4:(0:Int)∈l:=by
    rcases h2 with h2 | h2
    ·exact absurd he h2
    ·exact h2
   rw [decide_eq_true h4]
   exact ⟨D3 h3,rfl⟩
 ·have he:=dq c1
  rcases hd with ⟨h1,_,_⟩ | ⟨_,h3⟩
  ·exact absurd h1 he
  ·exact ⟨D3 h3,rfl⟩
abbrev D4:=118
abbrev xt:=162
def D5:aW:=λ_ ys T K=>match ys with
 |[.vec 1 v _,.val (.int .i64 0)]=>(IsB v∧wy 4 v)∧K (.tup [.val (.int .u32 (de 4 v)),.val (.bool true)]) T
 |_=>False
def pq (a:Int):Bool:=ax neq (aX (Value.int u32 a) (Value.int u32 (0:Int)))&&(ax neq (aX (Value.int u32 a) (Value.int u32 (4294967295:Int)))&&(ax neq (aX (Value.int u32 (fdiv a ((2:Int)^min (Int.toNat (24:Int)) (IntKind.bits u32)))) (Value.int u32 (127:Int)))&&ax neq (aX (Value.int u32 (fdiv a ((2:Int)^min (Int.toNat (29:Int)) (IntKind.bits u32)))) (Value.int u32 (7:Int)))))
def pt (v:Bs):Bs:=iV (Bl v)
def xu:aW:=λ_ ys T K=>match ys with
 |[.val (.int .u32 a)]=>K (.val (.bool (pq a))) T
 |_=>False
def D6:aW:=λ_ ys T K=>match ys with
 |[.vec 1 v _]=>IsB v∧K (.tup [.vec 1 (pt v) .none,.val (.bool (uu v))]) T
 |_=>False
def nU (o h m:Int)(hm:Bool)(x:TV):VO:=.cells [.val (.int .i64 o),x,.val (.int .u32 h),.val (.int .i64 m),.val (.bool hm)]
def kP (fl t:Int)(v:Bs):TV:=.agg [.val (.int .i64 fl),.val (.int .i64 t),.vec 1 v .none]
theorem Vt (a:Int)(Q:TV→VT→Prop):ar prog ae bt aT 300 aN 0 xt [.val (.int .u32 a)] am Q=
 (bif ax neq (aX (Value.int u32 a) (Value.int u32 (0:Int)))
 then (bif ax neq (aX (Value.int u32 a) (Value.int u32 (4294967295:Int)))
 then (bif ax neq (aX (Value.int u32 (fdiv a ((2:Int)^min (Int.toNat (24:Int)) (IntKind.bits u32)))) (Value.int u32 (127:Int)))
 then Q (cS (ax neq (aX (Value.int u32 (fdiv a ((2:Int)^min (Int.toNat (29:Int)) (IntKind.bits u32)))) (Value.int u32 (7:Int))))) am
 else Q aj am)
 else Q aj am)
 else Q aj am):=by kernel_rfl
abbrev mE:VO:=(Zb (.fn (.func 159) [] [(.ptr 2 0)]))
abbrev Iz:VO:=(Io (.fn (.func 158) [] [(.ptr 2 0)]))
abbrev Cn:VO:=(In (.fn (.func 161) [] [(.ptr 2 0)]))
abbrev lP:VO:=(Za (.fn (.func 163) [] [(.ptr 2 0)]))
theorem Vu (o h m fl t:Int)(hm:Bool)(x:TV)(Q:TV→VT→Prop):ar prog ae (aF [(ku,D6),(vG,D5),(xt,xu)]) (aZ [(999999,.dead,none)]) 300 aN 0 D4 [.ptr 0 0,kP fl t []] (cu (nU o h m hm x)) Q=
 (bif ax eql (k6 t (1:Int))
 then (bif ax neq (k6 (wrap i64 (↑(toNat (ofInt (IntKind.bits i64) fl&&&~~~ofInt (IntKind.bits i64) (16:Int))):Int)) (64:Int))
 then Q lG ⟨[(eI o x h m hm),(lJ fl t),cl,Iz,Iz],[]⟩
 else Q vC ⟨[(eI o x h m hm),(lJ fl t),cl,Iz,Iz],[]⟩)
 else (bif ax eql (k6 t (2:Int))
 then (bif ax neq (k6 (wrap i64 (↑(toNat (ofInt (IntKind.bits i64) fl&&&~~~ofInt (IntKind.bits i64) (16:Int))):Int)) (64:Int))
 then Q lG ⟨[(eI o x h m hm),(lJ fl t),cl,mE,mE],[]⟩
 else (IsB []∧
 (bif !uu []
 then Q (.val (.int .i64 11)) ⟨[(eI o x h m hm),(lJ fl t),cl,mE,mE],[]⟩
 else Q aB ⟨[(pf o (pt []) h m hm),(lJ fl t),cl,mE,mE],[]⟩)))
 else (bif ax eql (k6 t (3:Int))
 then (bif ax neq (k6 (wrap i64 (↑(toNat (ofInt (IntKind.bits i64) fl&&&~~~ofInt (IntKind.bits i64) (16:Int))):Int)) (64:Int))
 then Q lG ⟨[(eI o x h m hm),(lJ fl t),cl,Cn,Cn],[]⟩
 else Q vC ⟨[(eI o x h m hm),(lJ fl t),cl,Cn,Cn],[]⟩)
 else (bif ax eql (k6 t (4:Int))
 then (bif ax neq (k6 (wrap i64 (↑(toNat (ofInt (IntKind.bits i64) fl&&&~~~ofInt (IntKind.bits i64) (16:Int))):Int)) (128:Int))
 then Q lG ⟨[(eI o x h m hm),(lJ fl t),cl,lP,lP],[]⟩
 else Q vC ⟨[(eI o x h m hm),(lJ fl t),cl,lP,lP],[]⟩)
 else (bif ax eql (k6 (wrap i64 (↑(toNat (ofInt (IntKind.bits i64) fl&&&ofInt (IntKind.bits i64) (128:Int))):Int)) (0:Int))
 then Q dk ⟨[(eI o x h m hm),(lJ fl t),cl,(qi (.val .nilFunc)),(qi (.val .nilFunc))],[]⟩
 else Q aB ⟨[(eI o x h m hm),(lJ fl t),cl,(qi (.val .nilFunc)),(qi (.val .nilFunc))],[]⟩))))):=by kernel_rfl
abbrev ot (fl:Int)(t:Int)(z:Int)(w:Bs):VO:=(en fl t ([[(.val (.int .u8 (z)))]]++w))
abbrev IA (z:Int)(x:TV)(h:Int)(m:Int)(hm:Bool)(fl:Int)(t:Int)(w:Bs):VT:=(PI (wrap i64 z) x h m hm fl t ([[(.val (.int .u8 (z)))]]++w) (.fn (.func 158) [] [(.ptr 2 0)]) (.fn (.func 158) [] [(.ptr 2 0)]))
abbrev IB (o:Int)(x:TV)(z:Int)(w:Bs)(m:Int)(hm:Bool)(fl:Int)(t:Int):VT:=(PH o x (de (4:Int) (bT z::w)) m hm fl t ([[(.val (.int .u8 (z)))]]++w) (.fn (.func 161) [] [(.ptr 2 0)]) (.fn (.func 161) [] [(.ptr 2 0)]))
abbrev IC (o:Int)(x:TV)(h:Int)(m:Int)(hm:Bool)(fl:Int)(t:Int)(z:Int)(w:Bs):VT:=(PI o x h m hm fl t ([[(.val (.int .u8 (z)))]]++w) (.fn (.func 158) [] [(.ptr 2 0)]) (.fn (.func 158) [] [(.ptr 2 0)]))
abbrev ID (o:Int)(x:TV)(h:Int)(m:Int)(hm:Bool)(fl:Int)(t:Int)(z:Int)(w:Bs):VT:=(PH o x h m hm fl t ([[(.val (.int .u8 (z)))]]++w) (.fn (.func 161) [] [(.ptr 2 0)]) (.fn (.func 161) [] [(.ptr 2 0)]))
theorem Vv (o h m fl t z:Int)(hm:Bool)(x:TV)(w:Bs)(Q:TV→VT→Prop):ar prog ae (aF [(ku,D6),(vG,D5),(xt,xu)]) (aZ [(999999,.dead,none)]) 300 aN 0 D4 [.ptr 0 0,kP fl t (bT z::w)] (cu (nU o h m hm x)) Q=
 (bif ax eql (k6 t (1:Int))
 then (bif ax neq (k6 (wrap i64 (↑(toNat (ofInt (IntKind.bits i64) fl&&&~~~ofInt (IntKind.bits i64) (16:Int))):Int)) (64:Int))
 then Q lG (IC o x h m hm fl t z w)
 else (bif ax neq (k6 (↑(length (bT z::w)):Int) (1:Int))
 then Q vC (IC o x h m hm fl t z w)
 else (bif decide (wrap i64 z>(2:Int))
 then Q Ih (IA z x h m hm fl t w)
 else Q aB (IA z x h m hm fl t w))))
 else (bif ax eql (k6 t (2:Int))
 then (bif ax neq (k6 (wrap i64 (↑(toNat (ofInt (IntKind.bits i64) fl&&&~~~ofInt (IntKind.bits i64) (16:Int))):Int)) (64:Int))
 then Q lG ⟨[(eI o x h m hm),(ot fl t z w),cl,mE,mE],[]⟩
 else (IsB ([(gp z)]++w)∧
 (bif !uu (bT z::w)
 then Q (.val (.int .i64 11)) ⟨[(eI o x h m hm),(ot fl t z w),cl,mE,mE],[]⟩
 else Q aB ⟨[(pf o (pt (bT z::w)) h m hm),(ot fl t z w),cl,mE,mE],[]⟩)))
 else (bif ax eql (k6 t (3:Int))
 then (bif ax neq (k6 (wrap i64 (↑(toNat (ofInt (IntKind.bits i64) fl&&&~~~ofInt (IntKind.bits i64) (16:Int))):Int)) (64:Int))
 then Q lG (ID o x h m hm fl t z w)
 else (bif ax neq (k6 (↑(length (bT z::w)):Int) (4:Int))
 then Q vC (ID o x h m hm fl t z w)
 else ((IsB ([(gp z)]++w)∧
 wy 4 ([(gp z)]++w))∧
 (bif !pq (de (4:Int) (bT z::w))
 then Q (.val (.int .i64 8)) (IB o x z w m hm fl t)
 else Q aB (IB o x z w m hm fl t)))))
 else (bif ax eql (k6 t (4:Int))
 then (bif ax neq (k6 (wrap i64 (↑(toNat (ofInt (IntKind.bits i64) fl&&&~~~ofInt (IntKind.bits i64) (16:Int))):Int)) (128:Int))
 then Q lG ⟨[(eI o x h m hm),(ot fl t z w),cl,lP,lP],[]⟩
 else (bif ax neq (k6 (↑(length (bT z::w)):Int) (4:Int))
 then Q vC ⟨[(eI o x h m hm),(ot fl t z w),cl,lP,lP],[]⟩
 else ((IsB ([(gp z)]++w)∧
 wy 4 ([(gp z)]++w))∧
 Q aB ⟨[(.cells [(ah o),x,(cd h),(ah (wrap i64 (de (4:Int) (bT z::w)))),aI]),(ot fl t z w),cl,lP,lP],[]⟩)))
 else (bif ax eql (k6 (wrap i64 (↑(toNat (ofInt (IntKind.bits i64) fl&&&ofInt (IntKind.bits i64) (128:Int))):Int)) (0:Int))
 then Q dk ⟨[(eI o x h m hm),(ot fl t z w),cl,(qi (.val .nilFunc)),(qi (.val .nilFunc))],[]⟩
 else Q aB ⟨[(eI o x h m hm),(ot fl t z w),cl,(qi (.val .nilFunc)),(qi (.val .nilFunc))],[]⟩))))):=by kernel_rfl
theorem Gt (a:Int):VCx prog ae 0 xt [.val (.int .u32 a)] ⟨[],[]⟩ λx T'=>x=.val (.bool (pq a))∧T'=⟨[],[]⟩:=by
 refine ak ac aa an ai (Vt a _) ?_
 unfold pq
 refine aq (λc1=> ?_) (λc1=> ?_)
 ·refine aq (λc2=> ?_) (λc2=> ?_)
  ·refine aq (λc3=> ?_) (λc3=> ?_)
   ·rw [c1,c2,c3,Bool.true_and,Bool.true_and,Bool.true_and];exact ⟨rfl,rfl⟩
   ·rw [c1,c2,c3,Bool.true_and,Bool.true_and,Bool.false_and];exact ⟨rfl,rfl⟩
  ·rw [c1,c2,Bool.true_and,Bool.false_and];exact ⟨rfl,rfl⟩
 ·rw [c1,Bool.false_and];exact ⟨rfl,rfl⟩
theorem Gu {f:FuncId}(h:∀a,VCx prog ae 0 f [.val (.int .u32 a)] ⟨[],[]⟩ λx T'=>x=.val (.bool (pq a))∧T'=⟨[],[]⟩):∀ro ys T K,xu ro ys T K→VCx prog ae ro f ys T K:=by
 intro ro ys T K hw
 unfold xu at hw
 split at hw
 ·exact VCx.liftPure au (h _) rfl (λ_ _=>rfl) hw
 ·exact hw.elim
theorem Si (b:Bs)(f g:Nat→Option Nat):(yO b).ren f g=yO b:=by
 simp only [yO,TV.ren,ap,dm,Tok.ren]
theorem Sj {f:FuncId}(h:∀b,IsB b→VCx prog ae 0 f [.vec 1 b .none] ⟨[],[]⟩ λx T'=>x=yO b∧T'=⟨[],[]⟩):∀ro ys T K,D6 ro ys T K→VCx prog ae ro f ys T K:=by
 intro ro ys T K hw
 unfold D6 at hw
 split at hw
 ·rename_i v tok
  exact VCx.loosePure au (h v hw.1) (by simp [cj]) (by simp [ap,TV.ren,hw.1.ren,Tok.ren]) (λf h=>Si v f h) hw.2
 ·exact hw.elim
theorem Sk {v:Bs}(hv:IsB v)(hl:wy 4 v):VCx prog ae 0 vG [.vec 1 v .none,.val (.int .i64 0)] ⟨[],[]⟩ λx T'=>x=.tup [.val (.int .u32 (de 4 v)),.val (.bool true)]∧T'=⟨[],[]⟩:=by
 have hs:=hv.small
 have hl2:(4:Int)≤v.length:=hl
 refine ak ac aa (aL λp hp=>by obtain rfl:=mem_singleton.1 hp;exact Gc) ai (RE v _) ?_
 rw [b6 (z:=(v.length:Int)-4) (by omega) (by omega)]
 have hg:0≤de 4 v∧de 4 v<4294967296:=by
  obtain ⟨⟨l,hl3,hz⟩,_⟩:=hv.take 4
  have hlen:l.length=4:=by
   have:=congrArg length hl3
   simp only [bV,length_map,length_take] at this
   omega
  have h:=tZ hz
  rw [hlen] at h
  unfold de
  rw [show (4:Int).toNat=4 from rfl,hl3]
  exact ⟨h.1,Int.lt_of_lt_of_le h.2 (by decide)⟩
 have hw:wrap .u32 (de 4 v)=de 4 v:=by
  generalize de 4 v=y at hg
  simp only [wrap,IntKind.bits,signed];simp;omega
 refine aO (by rw [decide_eq_true (show (0:Int)≤(v.length:Int)-4 by omega)];rfl) ⟨?_,⟨hv,⟨by decide,by decide⟩,hl⟩,by rw [hw],rfl⟩
 have h:=A4 (x:=.tmp 10) (i:=.tmp 11) (l:= [(10,.vec 1 v .none),(11,.val (.int .i64 0))]) (b:=v) (tok:=.none) (k:=.i64) (z:=0) (n:=0) rfl rfl (Int.le_refl _) rfl (zero_le _)
 rwa [List.drop_zero] at h
theorem Sl:∀ro ys T K,D5 ro ys T K→VCx prog ae ro vG ys T K:=by
 intro ro ys T K hw
 unfold D5 at hw
 split at hw
 ·rename_i v tok
  obtain ⟨⟨hv,hl⟩,hk⟩:=hw
  exact VCx.loosePure au (Sk hv hl) (by simp [cj]) (by simp [ap,TV.ren,hv.ren,Tok.ren]) (λf h=>rfl) hk
 ·exact hw.elim
def je (fl:Int):Int:=wrap i64 (toNat (ofInt (IntKind.bits i64) fl&&&~~~ofInt (IntKind.bits i64) (16:Int)):Nat)
def KM (fl:Int):Bool:=ax eql (aX (Value.int i64 (wrap i64 (toNat (ofInt (IntKind.bits i64) fl&&&ofInt (IntKind.bits i64) (128:Int)):Nat))) (Value.int i64 (0:Int)))
def cU (fl t:Int)(v:Bs):Int:=
 if t=1 then (if ¬je fl=64 then 4 else if ¬(v.length:Int)=1 then 5 else if de 1 v>2 then 6 else 0)
 else if t=2 then (if ¬je fl=64 then 4 else bif uu v then 0 else 11)
 else if t=3 then (if ¬je fl=64 then 4 else if ¬(v.length:Int)=4 then 5 else bif pq (de 4 v) then 0 else 8)
 else if t=4 then (if ¬je fl=128 then 4 else if ¬(v.length:Int)=4 then 5 else 0)
 else bif KM fl then 2 else 0
def nV (o h m:Int)(hm:Bool)(x:TV)(t:Int)(v:Bs):VO:=
 if t=1 then nU (de 1 v) h m hm x else if t=2 then nU o h m hm (.vec 1 (pt v) .none) else if t=3 then nU o (de 4 v) m hm x else if t=4 then nU o h (de 4 v) true x else nU o h m hm x
def yQ (o h m:Int)(hm:Bool)(x:TV)(fl t:Int)(v:Bs)(y:TV)(T':VT):Prop:=y=.val (.int .i64 (cU fl t v))∧∃O,T'=⟨[O],[]⟩∧(cU fl t v=0→O=nV o h m hm x t v)
section
variable {o h m fl t s:Int}{hm:Bool}{x:TV}{v:Bs}{O:VO}{l:List VO}
theorem dI (hs:cU fl t v=s)(hne:¬s=0):yQ o h m hm x fl t v (.val (.int .i64 s)) (VT.keep ⟨O::l,[]⟩ 1 0):=⟨by rw [hs],_,rfl,λh=>absurd (hs.symm.trans h) hne⟩
theorem mF (hs:cU fl t v=0)(hO:O=nV o h m hm x t v)(hr:O.ren (aA 1) (aA 0)=O):yQ o h m hm x fl t v (.val (.int .i64 0)) (VT.keep ⟨O::l,[]⟩ 1 0):=⟨by rw [hs],_,rfl,λ_=>by rw [←hO];exact hr⟩
end
theorem eW {o h m:Int}{hm:Bool}{x:TV}(hx:∀f g,x.ren f g=x)(f g:Nat→Option Nat):(nU o h m hm x).ren f g=nU o h m hm x:=by
 simp only [nU,VO.ren,ap,TV.ren,hx]
theorem xv (v:Bs)(f g:Nat→Option Nat):(TV.vec 1 (pt v) .none).ren f g=.vec 1 (pt v) .none:=by
 simp only [TV.ren,pt,dm,Tok.ren]
theorem ge4 {v:Bs}(hv:IsB v)(hl:(v.length:Int)=4):0≤de 4 v∧de 4 v<4294967296:=by
 obtain ⟨⟨l,hl3,hz⟩,_⟩:=hv.take 4
 have hlen:l.length=4:=by
  have:=congrArg length hl3
  simp only [bV,length_map,length_take] at this
  omega
 have h:=tZ hz
 rw [hlen] at h
 unfold de
 rw [show (4:Int).toNat=4 from rfl,hl3]
 exact ⟨h.1,Int.lt_of_lt_of_le h.2 (by decide)⟩
theorem ge1 (z:Int)(w:Bs):de 1 (bT z::w)=z:=by
 show (0:Int)*256+z=z
 omega
theorem PT:bf prog ae (aF [(ku,D6),(vG,D5),(xt,xu)]):=aL λp hp=>by
 rcases mem_cons.1 hp with rfl | hp;exact Sj λ_ h=>Vs h
 rcases mem_cons.1 hp with rfl | hp;exact Sl
 obtain rfl:=mem_singleton.1 hp;exact Gu Gt
theorem Sm (o h m fl t:Int)(hm:Bool){x:TV}(hx:∀f g,x.ren f g=x){v:Bs}(hv:IsB v):VCx prog ae 0 D4 [.ptr 0 0,kP fl t v] ⟨[nU o h m hm x],[]⟩ (yQ o h m hm x fl t v):=by
 refine VCx.keepQ 1 0 (le_refl _) (le_refl _) ?_
 cases v with
 |nil=>
  refine ak ac aa PT ai (Vu o h m fl t hm x _) ?_
  refine aq (λa1=> ?_) (λa1=> ?_)
  ·replace a1:=dM a1
   refine aq (λf1=> ?_) (λf1=> ?_)
   ·exact dI (by unfold cU;rw [if_pos a1,if_pos (show ¬je fl=64 from fp f1)]) (by decide)
   replace f1:je fl=64:=fq f1
   exact dI (by unfold cU;rw [if_pos a1,if_neg (λc=>c f1),if_pos (by decide)]) (by decide)
  replace a1:=dq a1
  refine aq (λa2=> ?_) (λa2=> ?_)
  ·replace a2:=dM a2
   refine aq (λf1=> ?_) (λf1=> ?_)
   ·exact dI (by unfold cU;rw [if_neg a1,if_pos a2,if_pos (show ¬je fl=64 from fp f1)]) (by decide)
   replace f1:je fl=64:=fq f1
   refine ⟨hv,?_⟩
   cases hh:uu []
   ·exact dI (by unfold cU;rw [if_neg a1,if_pos a2,if_neg (λc=>c f1),hh];rfl) (by decide)
   ·exact mF (by unfold cU;rw [if_neg a1,if_pos a2,if_neg (λc=>c f1),hh];rfl) (by unfold nV;rw [if_neg a1,if_pos a2];rfl) (eW (xv _) _ _)
  replace a2:=dq a2
  refine aq (λa3=> ?_) (λa3=> ?_)
  ·replace a3:=dM a3
   refine aq (λf1=> ?_) (λf1=> ?_)
   ·exact dI (by unfold cU;rw [if_neg a1,if_neg a2,if_pos a3,if_pos (show ¬je fl=64 from fp f1)]) (by decide)
   replace f1:je fl=64:=fq f1
   exact dI (by unfold cU;rw [if_neg a1,if_neg a2,if_pos a3,if_neg (λc=>c f1),if_pos (by decide)]) (by decide)
  replace a3:=dq a3
  refine aq (λa4=> ?_) (λa4=> ?_)
  ·replace a4:=dM a4
   refine aq (λf1=> ?_) (λf1=> ?_)
   ·exact dI (by unfold cU;rw [if_neg a1,if_neg a2,if_neg a3,if_pos a4,if_pos (show ¬je fl=128 from fp f1)]) (by decide)
   replace f1:je fl=128:=fq f1
   exact dI (by unfold cU;rw [if_neg a1,if_neg a2,if_neg a3,if_pos a4,if_neg (λc=>c f1),if_pos (by decide)]) (by decide)
  replace a4:=dq a4
  refine aq (λa5=> ?_) (λa5=> ?_)
  ·exact dI (by unfold cU;rw [if_neg a1,if_neg a2,if_neg a3,if_neg a4,show KM fl=true from a5];rfl) (by decide)
  ·exact mF (by unfold cU;rw [if_neg a1,if_neg a2,if_neg a3,if_neg a4,show KM fl=false from a5];rfl) (by unfold nV;rw [if_neg a1,if_neg a2,if_neg a3,if_neg a4];rfl) (eW hx _ _)
 |cons r w=>
  obtain ⟨z,rfl,hz0,hz1⟩:=hv.at (j:=0) (r:=r) rfl
  refine ak ac aa PT ai (Vv o h m fl t z hm x w _) ?_
  refine aq (λa1=> ?_) (λa1=> ?_)
  ·replace a1:=dM a1
   refine aq (λf1=> ?_) (λf1=> ?_)
   ·exact dI (by unfold cU;rw [if_pos a1,if_pos (show ¬je fl=64 from fp f1)]) (by decide)
   replace f1:je fl=64:=fq f1
   refine aq (λb1=> ?_) (λb1=> ?_)
   ·exact dI (by unfold cU;rw [if_pos a1,if_neg (λc=>c f1),if_pos (show ¬(((bT z::w).length:Nat):Int)=1 from fp b1)]) (by decide)
   have g1:(((bT z::w).length:Nat):Int)=1:=fq b1
   have hz:z=de 1 (bT z::w):=(ge1 z w).symm
   have hwz:wrap .i64 z=z:=b6 (by omega) (by omega)
   try delta lP ot IA IB IC ID mE
   rw [hwz]
   refine aq (λb2=> ?_) (λb2=> ?_)
   ·exact dI (by unfold cU;rw [if_pos a1,if_neg (λc=>c f1),if_neg (λc=>c g1),if_pos (by rw [←hz];exact of_decide_eq_true b2)]) (by decide)
   ·exact mF (by unfold cU;rw [if_pos a1,if_neg (λc=>c f1),if_neg (λc=>c g1),if_neg (by rw [←hz];exact of_decide_eq_false b2)]) (by unfold nV;rw [if_pos a1,←hz];rfl) (eW hx _ _)
  replace a1:=dq a1
  refine aq (λa2=> ?_) (λa2=> ?_)
  ·replace a2:=dM a2
   refine aq (λf1=> ?_) (λf1=> ?_)
   ·exact dI (by unfold cU;rw [if_neg a1,if_pos a2,if_pos (show ¬je fl=64 from fp f1)]) (by decide)
   replace f1:je fl=64:=fq f1
   refine ⟨hv,?_⟩
   cases hh:uu (bT z::w)
   ·exact dI (by unfold cU;rw [if_neg a1,if_pos a2,if_neg (λc=>c f1),hh];rfl) (by decide)
   ·exact mF (by unfold cU;rw [if_neg a1,if_pos a2,if_neg (λc=>c f1),hh];rfl) (by unfold nV;rw [if_neg a1,if_pos a2];rfl) (eW (xv _) _ _)
  replace a2:=dq a2
  refine aq (λa3=> ?_) (λa3=> ?_)
  ·replace a3:=dM a3
   refine aq (λf1=> ?_) (λf1=> ?_)
   ·exact dI (by unfold cU;rw [if_neg a1,if_neg a2,if_pos a3,if_pos (show ¬je fl=64 from fp f1)]) (by decide)
   replace f1:je fl=64:=fq f1
   refine aq (λb1=> ?_) (λb1=> ?_)
   ·exact dI (by unfold cU;rw [if_neg a1,if_neg a2,if_pos a3,if_neg (λc=>c f1),if_pos (show ¬(((bT z::w).length:Nat):Int)=4 from fp b1)]) (by decide)
   have g1:(((bT z::w).length:Nat):Int)=4:=fq b1
   refine ⟨⟨hv,show (4:Int)≤(((bT z::w).length:Nat):Int) from by omega⟩,?_⟩
   cases hh:pq (de 4 (bT z::w))
   ·exact dI (by unfold cU;rw [if_neg a1,if_neg a2,if_pos a3,if_neg (λc=>c f1),if_neg (λc=>c g1),hh];rfl) (by decide)
   ·exact mF (by unfold cU;rw [if_neg a1,if_neg a2,if_pos a3,if_neg (λc=>c f1),if_neg (λc=>c g1),hh];rfl) (by unfold nV;rw [if_neg a1,if_neg a2,if_pos a3];rfl) (eW hx _ _)
  replace a3:=dq a3
  refine aq (λa4=> ?_) (λa4=> ?_)
  ·replace a4:=dM a4
   refine aq (λf1=> ?_) (λf1=> ?_)
   ·exact dI (by unfold cU;rw [if_neg a1,if_neg a2,if_neg a3,if_pos a4,if_pos (show ¬je fl=128 from fp f1)]) (by decide)
   replace f1:je fl=128:=fq f1
   refine aq (λb1=> ?_) (λb1=> ?_)
   ·exact dI (by unfold cU;rw [if_neg a1,if_neg a2,if_neg a3,if_pos a4,if_neg (λc=>c f1),if_pos (show ¬(((bT z::w).length:Nat):Int)=4 from fp b1)]) (by decide)
   have g1:(((bT z::w).length:Nat):Int)=4:=fq b1
   refine ⟨⟨hv,show (4:Int)≤(((bT z::w).length:Nat):Int) from by omega⟩,?_⟩
   obtain ⟨e1,e2⟩:=ge4 hv g1
   have hw4:wrap .i64 (de 4 (bT z::w))=de 4 (bT z::w):=b6 (by omega) (by omega)
   rw [hw4]
   exact mF (by unfold cU;rw [if_neg a1,if_neg a2,if_neg a3,if_pos a4,if_neg (λc=>c f1),if_neg (λc=>c g1)]) (by unfold nV;rw [if_neg a1,if_neg a2,if_neg a3,if_pos a4];rfl) (eW hx _ _)
  replace a4:=dq a4
  refine aq (λa5=> ?_) (λa5=> ?_)
  ·exact dI (by unfold cU;rw [if_neg a1,if_neg a2,if_neg a3,if_neg a4,show KM fl=true from a5];rfl) (by decide)
  ·exact mF (by unfold cU;rw [if_neg a1,if_neg a2,if_neg a3,if_neg a4,show KM fl=false from a5];rfl) (by unfold nV;rw [if_neg a1,if_neg a2,if_neg a3,if_neg a4];rfl) (eW hx _ _)
section
variable {P:Program}{G:aV}
theorem FP {ro:Nat}{T:VT}{t e tx:TypeId}{s x:Operand}{l:List (Nat × TV)}{inf:TypeInfo}{z:Value}{q0:List TV}{qs:List (List TV)}{tok:Tok}{id n:Nat}{cs:List TV}(ht:P.underlying t=some (.slice e))(hi:P.info? e=some inf)(hz:inf.zero=some z)(hzs:z.cells.size=inf.size)(hz1:z.cells.toList.all oneCell'=true)
  (hsl:fY (P.underlying tx)=true) (hs:aP G l s=.row inf.size id 0 n) (ho:T.objs[id]?=some (.row cs)) (hro:ro≤id) (hn:n*inf.size≤cs.length) (hx:aP G l x=.vec inf.size (q0::qs) tok) (hb:(n+(q0::qs).length)*(inf.bytes+1)≤140737488355328):
  bb P G ro T (.call ⟨.builtin .append,#[s,x],#[t,tx]⟩) l (.row inf.size T.objs.length 0 (n+(q0::qs).length)) ((T.kill id).newRow (cs.take (n*inf.size)++(q0::qs).flatten)):=by
 refine .mk ?_
 have h1:bu P (.call ⟨.builtin .append,#[s,x],#[t,tx]⟩) (aP G l)=none:=by simp [bu,dZ]
 have h2:br P T (.call ⟨.builtin .append,#[s,x],#[t,tx]⟩) (aP G l)=none:=by simp [br,dJ,jl]
 have hr:bK T inf.size (.vec inf.size (q0::qs) tok)=some (q0::qs):=by simp [bK,beq_refl]
 have h4:lv P T t tx (.row inf.size id 0 n) (.vec inf.size (q0::qs) tok)=none:=by simp [lv,ht]
 have h3:lu P ro T t tx (.row inf.size id 0 n) (.vec inf.size (q0::qs) tok)=some (.row inf.size T.objs.length 0 (n+(q0::qs).length),(T.kill id).newRow (cs.take (n*inf.size)++(q0::qs).flatten)):=by
  unfold lu
  simp only [ht,hi,hz,hr,hzs,decide_true,hz1,hsl,Bool.and_self,cond_true,beq_refl,ho,Nat.ble_eq_true_of_le hro,Nat.ble_eq_true_of_le hn,Nat.ble_eq_true_of_le hb]
 have h5:sa P ro T t tx (.row inf.size id 0 n) (.vec inf.size (q0::qs) tok)=none:=rfl
 simp only [gB,h1,h2,lw,hs,hx,hsl,h4,h5,h3,cond_true]
end
abbrev qN:=119
def Zl (W:List TV)(T:VT):VT:=(T.kill (T.objs.length-1)).newRow ((match T.objs[T.objs.length-1]? with
 |some (.row cs)=>cs
 |_=> [])++W)
theorem Sn (fl t:Int)(Q:TV→VT→Prop):ar prog ae bt (aZ [(999999,.dead,none)]) 300 aN 0 qN [kP fl t []] ⟨[],[]⟩ Q=
 (bif ax neq (aX (Value.int i64 (wrap i64 (↑(toNat (ofInt (IntKind.bits i64) fl&&&ofInt (IntKind.bits i64) (16:Int))):Int))) (Value.int i64 (0:Int)))
 then Q (.row 1 7 0 4) ⟨[(.cells [(.val (.int .i64 (fl))),(.val (.int .i64 (t))),(.vec 1 [] .none)]),.gone,(.row [(.val (.int .u8 (wrap u8 (fdiv (wrap u64 fl) ((2:Int)^min (Int.toNat (wrap i64 ((8:Int)*wrap i64 ((1:Int)-(1:Int))))) (IntKind.bits u64))))))]),.gone,(.row [(.val (.int .u8 (wrap u8 (fdiv (wrap u64 fl) ((2:Int)^min (Int.toNat (wrap i64 ((8:Int)*wrap i64 ((1:Int)-(1:Int))))) (IntKind.bits u64)))))),(.val (.int .u8 (wrap u8 (fdiv (wrap u64 t) ((2:Int)^min (Int.toNat (wrap i64 ((8:Int)*wrap i64 ((1:Int)-(1:Int))))) (IntKind.bits u64))))))]),.gone,.gone,(.row [(.val (.int .u8 (wrap u8 (fdiv (wrap u64 fl) ((2:Int)^min (Int.toNat (wrap i64 ((8:Int)*wrap i64 ((1:Int)-(1:Int))))) (IntKind.bits u64)))))),(.val (.int .u8 (wrap u8 (fdiv (wrap u64 t) ((2:Int)^min (Int.toNat (wrap i64 ((8:Int)*wrap i64 ((1:Int)-(1:Int))))) (IntKind.bits u64)))))),(.val (.int .u8 0)),(.val (.int .u8 0))])],[]⟩
 else Q (.row 1 6 0 3) ⟨[(.cells [(.val (.int .i64 (fl))),(.val (.int .i64 (t))),(.vec 1 [] .none)]),.gone,(.row [(.val (.int .u8 (wrap u8 (fdiv (wrap u64 fl) ((2:Int)^min (Int.toNat (wrap i64 ((8:Int)*wrap i64 ((1:Int)-(1:Int))))) (IntKind.bits u64))))))]),.gone,(.row [(.val (.int .u8 (wrap u8 (fdiv (wrap u64 fl) ((2:Int)^min (Int.toNat (wrap i64 ((8:Int)*wrap i64 ((1:Int)-(1:Int))))) (IntKind.bits u64)))))),(.val (.int .u8 (wrap u8 (fdiv (wrap u64 t) ((2:Int)^min (Int.toNat (wrap i64 ((8:Int)*wrap i64 ((1:Int)-(1:Int))))) (IntKind.bits u64))))))]),.gone,(.row [(.val (.int .u8 (wrap u8 (fdiv (wrap u64 fl) ((2:Int)^min (Int.toNat (wrap i64 ((8:Int)*wrap i64 ((1:Int)-(1:Int))))) (IntKind.bits u64)))))),(.val (.int .u8 (wrap u8 (fdiv (wrap u64 t) ((2:Int)^min (Int.toNat (wrap i64 ((8:Int)*wrap i64 ((1:Int)-(1:Int))))) (IntKind.bits u64)))))),(.val (.int .u8 0))])],[]⟩):=by kernel_rfl
theorem Vw (fl t:Int)(v w:Bs)(W:List TV)(K N:Nat)(Q:TV→VT→Prop):ar prog ae bt (aZ [(999999,.dead,none),(33,.vec 1 w .none,none),(34,.row 1 K 0 N,some (Zl W))]) 300 aN 0 qN [kP fl t v] ⟨[],[]⟩ Q=
 (bif ax neq (aX (Value.int i64 (wrap i64 (↑(toNat (ofInt (IntKind.bits i64) fl&&&ofInt (IntKind.bits i64) (16:Int))):Int))) (Value.int i64 (0:Int)))
 then (bc prog (λ_=>.none) (.slice 22 (.tmp 31) .none (.some (.tmp 32)) .none) [(31,(.vec 1 (v) .none)),(32,(.val (.int .i64 (if (65535:Int)<(↑(length v):Int) then (65535:Int) else (↑(length v):Int)))))] (.vec 1 (w) .none)∧
 (bb prog (λ_=>.none) 0 ⟨[(.cells [(.val (.int .i64 (fl))),(.val (.int .i64 (t))),(.vec 1 (v) .none)]),.gone,(.row [(.val (.int .u8 (wrap u8 (fdiv (wrap u64 fl) ((2:Int)^min (Int.toNat (wrap i64 ((8:Int)*wrap i64 ((1:Int)-(1:Int))))) (IntKind.bits u64))))))]),.gone,(.row [(.val (.int .u8 (wrap u8 (fdiv (wrap u64 fl) ((2:Int)^min (Int.toNat (wrap i64 ((8:Int)*wrap i64 ((1:Int)-(1:Int))))) (IntKind.bits u64)))))),(.val (.int .u8 (wrap u8 (fdiv (wrap u64 t) ((2:Int)^min (Int.toNat (wrap i64 ((8:Int)*wrap i64 ((1:Int)-(1:Int))))) (IntKind.bits u64))))))]),.gone,.gone,(.row [(.val (.int .u8 (wrap u8 (fdiv (wrap u64 fl) ((2:Int)^min (Int.toNat (wrap i64 ((8:Int)*wrap i64 ((1:Int)-(1:Int))))) (IntKind.bits u64)))))),(.val (.int .u8 (wrap u8 (fdiv (wrap u64 t) ((2:Int)^min (Int.toNat (wrap i64 ((8:Int)*wrap i64 ((1:Int)-(1:Int))))) (IntKind.bits u64)))))),(.val (.int .u8 (wrap u8 (fdiv (wrap u64 (if (65535:Int)<(↑(length v):Int) then (65535:Int) else (↑(length v):Int))) ((2:Int)^min (Int.toNat (wrap i64 ((8:Int)*wrap i64 ((2:Int)-(1:Int))))) (IntKind.bits u64)))))),(.val (.int .u8 (wrap u8 (fdiv (wrap u64 (if (65535:Int)<(↑(length v):Int) then (65535:Int) else (↑(length v):Int))) ((2:Int)^min (Int.toNat (wrap i64 ((8:Int)*wrap i64 (wrap i64 ((2:Int)-(1:Int))-(1:Int))))) (IntKind.bits u64))))))])],[]⟩ (.call ⟨(.builtin .append),#[(.tmp 29),(.tmp 33)],#[22,22]⟩) [(29,(.row 1 7 0 4)),(33,(.vec 1 (w) .none))] (.row 1 (K) 0 (N)) ⟨[(.cells [(.val (.int .i64 (fl))),(.val (.int .i64 (t))),(.vec 1 (v) .none)]),.gone,(.row [(.val (.int .u8 (wrap u8 (fdiv (wrap u64 fl) ((2:Int)^min (Int.toNat (wrap i64 ((8:Int)*wrap i64 ((1:Int)-(1:Int))))) (IntKind.bits u64))))))]),.gone,(.row [(.val (.int .u8 (wrap u8 (fdiv (wrap u64 fl) ((2:Int)^min (Int.toNat (wrap i64 ((8:Int)*wrap i64 ((1:Int)-(1:Int))))) (IntKind.bits u64)))))),(.val (.int .u8 (wrap u8 (fdiv (wrap u64 t) ((2:Int)^min (Int.toNat (wrap i64 ((8:Int)*wrap i64 ((1:Int)-(1:Int))))) (IntKind.bits u64))))))]),.gone,.gone,.gone,(.row ([(.val (.int .u8 (wrap u8 (fdiv (wrap u64 fl) ((2:Int)^min (Int.toNat (wrap i64 ((8:Int)*wrap i64 ((1:Int)-(1:Int))))) (IntKind.bits u64)))))),(.val (.int .u8 (wrap u8 (fdiv (wrap u64 t) ((2:Int)^min (Int.toNat (wrap i64 ((8:Int)*wrap i64 ((1:Int)-(1:Int))))) (IntKind.bits u64)))))),(.val (.int .u8 (wrap u8 (fdiv (wrap u64 (if (65535:Int)<(↑(length v):Int) then (65535:Int) else (↑(length v):Int))) ((2:Int)^min (Int.toNat (wrap i64 ((8:Int)*wrap i64 ((2:Int)-(1:Int))))) (IntKind.bits u64)))))),(.val (.int .u8 (wrap u8 (fdiv (wrap u64 (if (65535:Int)<(↑(length v):Int) then (65535:Int) else (↑(length v):Int))) ((2:Int)^min (Int.toNat (wrap i64 ((8:Int)*wrap i64 (wrap i64 ((2:Int)-(1:Int))-(1:Int))))) (IntKind.bits u64))))))]++W))],[]⟩∧
 Q (.row 1 (K) 0 (N)) ⟨[(.cells [(.val (.int .i64 (fl))),(.val (.int .i64 (t))),(.vec 1 (v) .none)]),.gone,(.row [(.val (.int .u8 (wrap u8 (fdiv (wrap u64 fl) ((2:Int)^min (Int.toNat (wrap i64 ((8:Int)*wrap i64 ((1:Int)-(1:Int))))) (IntKind.bits u64))))))]),.gone,(.row [(.val (.int .u8 (wrap u8 (fdiv (wrap u64 fl) ((2:Int)^min (Int.toNat (wrap i64 ((8:Int)*wrap i64 ((1:Int)-(1:Int))))) (IntKind.bits u64)))))),(.val (.int .u8 (wrap u8 (fdiv (wrap u64 t) ((2:Int)^min (Int.toNat (wrap i64 ((8:Int)*wrap i64 ((1:Int)-(1:Int))))) (IntKind.bits u64))))))]),.gone,.gone,.gone,(.row ([(.val (.int .u8 (wrap u8 (fdiv (wrap u64 fl) ((2:Int)^min (Int.toNat (wrap i64 ((8:Int)*wrap i64 ((1:Int)-(1:Int))))) (IntKind.bits u64)))))),(.val (.int .u8 (wrap u8 (fdiv (wrap u64 t) ((2:Int)^min (Int.toNat (wrap i64 ((8:Int)*wrap i64 ((1:Int)-(1:Int))))) (IntKind.bits u64)))))),(.val (.int .u8 (wrap u8 (fdiv (wrap u64 (if (65535:Int)<(↑(length v):Int) then (65535:Int) else (↑(length v):Int))) ((2:Int)^min (Int.toNat (wrap i64 ((8:Int)*wrap i64 ((2:Int)-(1:Int))))) (IntKind.bits u64)))))),(.val (.int .u8 (wrap u8 (fdiv (wrap u64 (if (65535:Int)<(↑(length v):Int) then (65535:Int) else (↑(length v):Int))) ((2:Int)^min (Int.toNat (wrap i64 ((8:Int)*wrap i64 (wrap i64 ((2:Int)-(1:Int))-(1:Int))))) (IntKind.bits u64))))))]++W))],[]⟩))
 else (bc prog (λ_=>.none) (.slice 22 (.tmp 31) .none (.some (.tmp 32)) .none) [(31,(.vec 1 (v) .none)),(32,(.val (.int .i64 (if (255:Int)<(↑(length v):Int) then (255:Int) else (↑(length v):Int)))))] (.vec 1 (w) .none)∧
 (bb prog (λ_=>.none) 0 ⟨[(.cells [(.val (.int .i64 (fl))),(.val (.int .i64 (t))),(.vec 1 (v) .none)]),.gone,(.row [(.val (.int .u8 (wrap u8 (fdiv (wrap u64 fl) ((2:Int)^min (Int.toNat (wrap i64 ((8:Int)*wrap i64 ((1:Int)-(1:Int))))) (IntKind.bits u64))))))]),.gone,(.row [(.val (.int .u8 (wrap u8 (fdiv (wrap u64 fl) ((2:Int)^min (Int.toNat (wrap i64 ((8:Int)*wrap i64 ((1:Int)-(1:Int))))) (IntKind.bits u64)))))),(.val (.int .u8 (wrap u8 (fdiv (wrap u64 t) ((2:Int)^min (Int.toNat (wrap i64 ((8:Int)*wrap i64 ((1:Int)-(1:Int))))) (IntKind.bits u64))))))]),.gone,(.row [(.val (.int .u8 (wrap u8 (fdiv (wrap u64 fl) ((2:Int)^min (Int.toNat (wrap i64 ((8:Int)*wrap i64 ((1:Int)-(1:Int))))) (IntKind.bits u64)))))),(.val (.int .u8 (wrap u8 (fdiv (wrap u64 t) ((2:Int)^min (Int.toNat (wrap i64 ((8:Int)*wrap i64 ((1:Int)-(1:Int))))) (IntKind.bits u64)))))),(.val (.int .u8 (wrap u8 (fdiv (wrap u64 (if (255:Int)<(↑(length v):Int) then (255:Int) else (↑(length v):Int))) ((2:Int)^min (Int.toNat (wrap i64 ((8:Int)*wrap i64 ((1:Int)-(1:Int))))) (IntKind.bits u64))))))])],[]⟩ (.call ⟨(.builtin .append),#[(.tmp 29),(.tmp 33)],#[22,22]⟩) [(29,(.row 1 6 0 3)),(33,(.vec 1 (w) .none))] (.row 1 (K) 0 (N)) ⟨[(.cells [(.val (.int .i64 (fl))),(.val (.int .i64 (t))),(.vec 1 (v) .none)]),.gone,(.row [(.val (.int .u8 (wrap u8 (fdiv (wrap u64 fl) ((2:Int)^min (Int.toNat (wrap i64 ((8:Int)*wrap i64 ((1:Int)-(1:Int))))) (IntKind.bits u64))))))]),.gone,(.row [(.val (.int .u8 (wrap u8 (fdiv (wrap u64 fl) ((2:Int)^min (Int.toNat (wrap i64 ((8:Int)*wrap i64 ((1:Int)-(1:Int))))) (IntKind.bits u64)))))),(.val (.int .u8 (wrap u8 (fdiv (wrap u64 t) ((2:Int)^min (Int.toNat (wrap i64 ((8:Int)*wrap i64 ((1:Int)-(1:Int))))) (IntKind.bits u64))))))]),.gone,.gone,(.row ([(.val (.int .u8 (wrap u8 (fdiv (wrap u64 fl) ((2:Int)^min (Int.toNat (wrap i64 ((8:Int)*wrap i64 ((1:Int)-(1:Int))))) (IntKind.bits u64)))))),(.val (.int .u8 (wrap u8 (fdiv (wrap u64 t) ((2:Int)^min (Int.toNat (wrap i64 ((8:Int)*wrap i64 ((1:Int)-(1:Int))))) (IntKind.bits u64)))))),(.val (.int .u8 (wrap u8 (fdiv (wrap u64 (if (255:Int)<(↑(length v):Int) then (255:Int) else (↑(length v):Int))) ((2:Int)^min (Int.toNat (wrap i64 ((8:Int)*wrap i64 ((1:Int)-(1:Int))))) (IntKind.bits u64))))))]++W))],[]⟩∧
 Q (.row 1 (K) 0 (N)) ⟨[(.cells [(.val (.int .i64 (fl))),(.val (.int .i64 (t))),(.vec 1 (v) .none)]),.gone,(.row [(.val (.int .u8 (wrap u8 (fdiv (wrap u64 fl) ((2:Int)^min (Int.toNat (wrap i64 ((8:Int)*wrap i64 ((1:Int)-(1:Int))))) (IntKind.bits u64))))))]),.gone,(.row [(.val (.int .u8 (wrap u8 (fdiv (wrap u64 fl) ((2:Int)^min (Int.toNat (wrap i64 ((8:Int)*wrap i64 ((1:Int)-(1:Int))))) (IntKind.bits u64)))))),(.val (.int .u8 (wrap u8 (fdiv (wrap u64 t) ((2:Int)^min (Int.toNat (wrap i64 ((8:Int)*wrap i64 ((1:Int)-(1:Int))))) (IntKind.bits u64))))))]),.gone,.gone,(.row ([(.val (.int .u8 (wrap u8 (fdiv (wrap u64 fl) ((2:Int)^min (Int.toNat (wrap i64 ((8:Int)*wrap i64 ((1:Int)-(1:Int))))) (IntKind.bits u64)))))),(.val (.int .u8 (wrap u8 (fdiv (wrap u64 t) ((2:Int)^min (Int.toNat (wrap i64 ((8:Int)*wrap i64 ((1:Int)-(1:Int))))) (IntKind.bits u64)))))),(.val (.int .u8 (wrap u8 (fdiv (wrap u64 (if (255:Int)<(↑(length v):Int) then (255:Int) else (↑(length v):Int))) ((2:Int)^min (Int.toNat (wrap i64 ((8:Int)*wrap i64 ((1:Int)-(1:Int))))) (IntKind.bits u64))))))]++W))],[]⟩))):=by kernel_rfl
def bz (z:Int)(m:Nat):Int:=wrap .u8 (fdiv (wrap .u64 z) ((2:Int)^m))
def fA (fl:Int)(v:Bs):Int:=bif lO fl then (if (65535:Int)<(v.length:Int) then 65535 else v.length) else (if (255:Int)<(v.length:Int) then 255 else v.length)
def Bn (fl t n:Int):Bs:=bif lO fl then [bT (bz fl 0),bT (bz t 0),bT (bz n 8),bT (bz n 0)] else [bT (bz fl 0),bT (bz t 0),bT (bz n 0)]
def dn (fl t:Int)(v:Bs):Bs:=Bn fl t (fA fl v)++v.take (fA fl v).toNat
theorem Zm (z:Int):0≤wrap .u8 z∧wrap .u8 z<256:=by
 simp only [wrap,IntKind.bits,signed];simp;omega
theorem sI (z:Int)(m:Nat):0≤bz z m∧bz z m<256:=Zm _
theorem KN (fl:Int)(v:Bs):0≤fA fl v∧(fA fl v).toNat≤v.length:=by
 unfold fA
 cases lO fl<;>simp only [cond_true,cond_false]<;>split<;>omega
theorem ns {fl t:Int}{v:Bs}(hv:IsB v)(hl:v.length≤28800000):IsB (dn fl t v):=by
 obtain ⟨⟨l,hl2,hz⟩,_⟩:=hv.take (fA fl v).toNat
 have h1:(v.take (fA fl v).toNat).length≤v.length:=by rw [length_take];omega
 unfold dn Bn
 rw [hl2] at h1 ⊢
 cases lO fl
 ·refine ⟨⟨bz fl 0::bz t 0::bz (fA fl v) 0::l,rfl,λz hm=> ?_⟩,?_⟩
  ·rcases mem_cons.1 hm with rfl | hm;exact sI _ _
   rcases mem_cons.1 hm with rfl | hm;exact sI _ _
   rcases mem_cons.1 hm with rfl | hm;exact sI _ _
   exact hz z hm
  ·simp only [cond_false,length_append,length_cons,length_nil];omega
 ·refine ⟨⟨bz fl 0::bz t 0::bz (fA fl v) 8::bz (fA fl v) 0::l,rfl,λz hm=> ?_⟩,?_⟩
  ·rcases mem_cons.1 hm with rfl | hm;exact sI _ _
   rcases mem_cons.1 hm with rfl | hm;exact sI _ _
   rcases mem_cons.1 hm with rfl | hm;exact sI _ _
   rcases mem_cons.1 hm with rfl | hm;exact sI _ _
   exact hz z hm
  ·simp only [cond_true,length_append,length_cons,length_nil];omega
theorem VCx.rowB {f:FuncId}{xs:List TV}{es:Bs}(hes:IsB es)(h:VCx prog ae 0 f xs ⟨[],[]⟩ λx T'=>∃id off n,x=.row 1 id off n∧bK T' 1 (.row 1 id off n)=some es):VCx prog ae 0 f xs ⟨[],[]⟩ λx T'=>x=.vec 1 es .none∧T'=⟨[],[]⟩:=by
 refine VCx.keepQ 0 0 (le_refl _) (le_refl _) ((VCx.freeze (size:=1) (es:=es) (Q:=λ_=>True) (h.mono λx T' ⟨id,off,n,h1,h2⟩=>⟨id,off,n,h1,h2,trivial⟩)).mono ?_)
 rintro x T' ⟨rfl,_⟩
 exact ⟨by simp only [TV.ren,hes.ren,Tok.ren],rfl⟩
theorem D7 (fl t:Int):VCx prog ae 0 qN [kP fl t []] ⟨[],[]⟩ λx T'=>x=.vec 1 (dn fl t []) .none∧T'=⟨[],[]⟩:=by
 refine VCx.rowB (ns .nil (by simp)) (ak ac aa an ai (Sn fl t _) ?_)
 refine aq (λhx=>⟨7,0,4,rfl,?_⟩) (λhx=>⟨6,0,3,rfl,?_⟩)
 ·have e:dn fl t []= [bT (bz fl 0),bT (bz t 0),bT (bz 0 8),bT (bz 0 0)]:=by
   unfold dn Bn fA;rw [show lO fl=true from hx];rfl
  rw [e]
  exact jT (es:= [bT (bz fl 0),bT (bz t 0),bT (bz 0 8),bT (bz 0 0)]) (by kernel_rfl) (by intro e he;simp only [mem_cons,not_mem_nil,or_false] at he;rcases he with rfl | rfl | rfl | rfl<;>rfl)
 ·have e:dn fl t []= [bT (bz fl 0),bT (bz t 0),bT (bz 0 0)]:=by
   unfold dn Bn fA;rw [show lO fl=false from hx];rfl
  rw [e]
  exact jT (es:= [bT (bz fl 0),bT (bz t 0),bT (bz 0 0)]) (by kernel_rfl) (by intro e he;simp only [mem_cons,not_mem_nil,or_false] at he;rcases he with rfl | rfl | rfl<;>rfl)
theorem D8 {T T':VT}{s x:Operand}{l:List (Nat × TV)}{q0:List TV}{qs:Bs}{tok:Tok}{id n:Nat}{cs:List TV}{y:TV}(hs:aP ae l s=.row 1 id 0 n)(ho:T.objs[id]?=some (.row cs))(hn:n≤cs.length)(hx:aP ae l x=.vec 1 (q0::qs) tok)(hb:n+(q0::qs).length≤64000001)
  (hy:TV.row 1 T.objs.length 0 (n+(q0::qs).length)=y) (hT:(T.kill id).newRow (cs.take n++(q0::qs).flatten)=T'):bb prog ae 0 T (.call ⟨.builtin .append,#[s,x],#[22,22]⟩) l y T':=by
 obtain ⟨inf,i1,i2,i3,i4⟩:=cO
 have h:=FP (inf:=inf) (P:=prog) (G:=ae) (ro:=0) (T:=T) (t:=22) (tx:=22) (s:=s) (x:=x) (l:=l) (q0:=q0) (qs:=qs) (tok:=tok) (id:=id) (n:=n) (cs:=cs) Tryz.underlying22 i1 i4 (by rw [i2];rfl) (by rfl) (by kernel_rfl) (by rw [i2];exact hs) ho (zero_le _) (by rw [i2];omega) (by rw [i2];exact hx) (by rw [i3];omega)
 rw [i2,Nat.mul_one,hy,hT] at h
 exact h
theorem So {fl:Int}{r:List TV}{v:Bs}:0<(fA fl (r::v)).toNat:=by
 unfold fA
 cases lO fl<;>simp only [cond_true,cond_false,length_cons]<;>split<;>omega
theorem Gv (fl t:Int){r:List TV}{v:Bs}(hv:IsB (r::v))(hl:(r::v).length≤28800000):VCx prog ae 0 qN [kP fl t (r::v)] ⟨[],[]⟩ λx T'=>x=.vec 1 (dn fl t (r::v)) .none∧T'=⟨[],[]⟩:=by
 obtain ⟨h0,h1⟩:=KN fl (r::v)
 have hp:=So (fl:=fl) (r:=r) (v:=v)
 obtain ⟨qs,hqs⟩:∃qs,(r::v).take (fA fl (r::v)).toNat=r::qs:=by
  obtain ⟨k,hk⟩:∃k,(fA fl (r::v)).toNat=k+1:=⟨_,(Nat.succ_pred_eq_of_pos hp).symm⟩
  exact ⟨v.take k,by rw [hk];rfl⟩
 have hql:(r::qs).length≤28800000:=by
  rw [←hqs,length_take];omega
 have hq1:∀e∈r::qs,e.length=1:=by
  rw [←hqs];exact (hv.take _).len1
 refine VCx.rowB (ns hv hl) (ak ac aa an ai (Vw fl t (r::v) (r::qs) (r::qs).flatten (bif lO fl then 8 else 7) ((r::qs).length+(bif lO fl then 4 else 3)) _) ?_)
 refine aq (λhx=> ?_) (λhx=> ?_)
 ·have hx2:lO fl=true:=hx
  have hM:fA fl (r::v)=(if (65535:Int)<((r::v).length:Int) then 65535 else ((r::v).length:Int)):=by unfold fA;rw [hx2];rfl
  rw [hx2,←hM]
  refine ⟨?_,D8 (id:=7) (n:=4) (tok:=.none) rfl rfl (le_refl 4) rfl (by omega) (by rw [Nat.add_comm 4];rfl) rfl,8,0,(r::qs).length+4,rfl,?_⟩
  ·have h:=qk (x:=.tmp 31) (i:=.tmp 32) (l:= [(31,.vec 1 (r::v) .none),(32,.val (.int .i64 (fA fl (r::v))))]) (b:=r::v) (tok:=.none) (k:=.i64) (z:=fA fl (r::v)) rfl rfl h0 rfl h1
   rwa [hqs] at h
  ·have e:dn fl t (r::v)= [bT (bz fl 0),bT (bz t 0),bT (bz (fA fl (r::v)) 8),bT (bz (fA fl (r::v)) 0)]++(r::qs):=by unfold dn Bn;rw [hx2,hqs];rfl
   rw [e]
   exact jT (es:= [bT (bz fl 0),bT (bz t 0),bT (bz (fA fl (r::v)) 8),bT (bz (fA fl (r::v)) 0)]++(r::qs)) rfl (λe he=>by
    rcases mem_append.1 he with h | h
    ·simp only [mem_cons,not_mem_nil,or_false] at h;rcases h with rfl | rfl | rfl | rfl<;>rfl
    ·exact hq1 e h)
 ·have hx2:lO fl=false:=hx
  have hM:fA fl (r::v)=(if (255:Int)<((r::v).length:Int) then 255 else ((r::v).length:Int)):=by unfold fA;rw [hx2];rfl
  rw [hx2,←hM]
  refine ⟨?_,D8 (id:=6) (n:=3) (tok:=.none) rfl rfl (le_refl 3) rfl (by omega) (by rw [Nat.add_comm 3];rfl) rfl,7,0,(r::qs).length+3,rfl,?_⟩
  ·have h:=qk (x:=.tmp 31) (i:=.tmp 32) (l:= [(31,.vec 1 (r::v) .none),(32,.val (.int .i64 (fA fl (r::v))))]) (b:=r::v) (tok:=.none) (k:=.i64) (z:=fA fl (r::v)) rfl rfl h0 rfl h1
   rwa [hqs] at h
  ·have e:dn fl t (r::v)= [bT (bz fl 0),bT (bz t 0),bT (bz (fA fl (r::v)) 0)]++(r::qs):=by unfold dn Bn;rw [hx2,hqs];rfl
   rw [e]
   exact jT (es:= [bT (bz fl 0),bT (bz t 0),bT (bz (fA fl (r::v)) 0)]++(r::qs)) rfl (λe he=>by
    rcases mem_append.1 he with h | h
    ·simp only [mem_cons,not_mem_nil,or_false] at h;rcases h with rfl | rfl | rfl<;>rfl
    ·exact hq1 e h)
--bumped 32
--bumped 32
def Ov (x:TV):Prop:=∀f g,x.ren f g=x
def IE (o h m:Int)(hm:Bool)(x:TV)(t:Int)(v:Bs)(O:VO):Prop:=O=nV o h m hm x t v
def DzOk (dz:TV)(d:Bs):Prop:=(dz=.val (.slice none 0 0)∧d= [])∨(dz=.vec 1 d .none∧IsB d)
theorem DzOk.le {dz:TV}{d:Bs}(h:DzOk dz d)(f g:Nat→Option Nat):TVle (dz.ren f g) (.vec 1 d .none):=by
 rcases h with ⟨rfl,rfl⟩ | ⟨rfl,hd⟩
 ·exact .nil 1
 ·simp only [TV.ren,hd.ren,Tok.ren];exact .refl _
theorem DzOk.nil:DzOk (.val (.slice none 0 0)) []:=.inl ⟨rfl,rfl⟩
def kQ (fl t:Int)(v:Bs):Prop:=(0≤fl∧fl<256)∧(0≤t∧t<256)∧IsB v∧v.length≤28800000
structure AtS where
 o:Int
 h:Int
 m:Int
 hm:Bool
 x:TV
def AtS.vo (a:AtS):VO:=nU a.o a.h a.m a.hm a.x
def AtS.tv (a:AtS):TV:=.agg [.val (.int .i64 a.o),a.x,.val (.int .u32 a.h),.val (.int .i64 a.m),.val (.bool a.hm)]
def uy:AtS:=⟨0,0,0,false,.val (.slice none 0 0)⟩
def AtS.put (a:AtS)(t:Int)(v:Bs):AtS:=
 if t=1 then {a with o:=de 1 v} else if t=2 then {a with x:=.vec 1 (pt v) .none} else if t=3 then {a with h:=de 4 v} else if t=4 then {a with m:=de 4 v,hm:=true} else a
theorem Sp (a:AtS)(t:Int)(v:Bs):nV a.o a.h a.m a.hm a.x t v=(a.put t v).vo:=by
 unfold nV AtS.put AtS.vo
 split
 ·rfl
 split
 ·rfl
 split
 ·rfl
 split<;>rfl
def AtS.Ok (a:AtS):Prop:=a.x=.val (.slice none 0 0)∨∃l:List Int,a.x=.vec 1 (iV l) .none
theorem AtS.Ok.ren {a:AtS}(h:a.Ok)(f g:Nat→Option Nat):a.x.ren f g=a.x:=by
 rcases h with h | ⟨l,h⟩<;>rw [h]
 ·rfl
 ·simp only [TV.ren,dm,Tok.ren]
theorem uz:uy.Ok:=.inl rfl
theorem AtS.Ok.put {a:AtS}(h:a.Ok)(t:Int)(v:Bs):(a.put t v).Ok:=by
 unfold AtS.put
 split
 ·exact h
 split
 ·exact .inr ⟨_,rfl⟩
 split
 ·exact h
 split
 ·exact h
 ·exact h
theorem AtS.Ok.vo_ren {a:AtS}(h:a.Ok)(f g:Nat→Option Nat):a.vo.ren f g=a.vo:=eW h.ren f g
def fL (f:Nat→Bool):List TV:=(List.range 256).map λi=>.val (.bool (f i))
def jF (f:Nat→Bool)(t:Nat):Nat→Bool:=λi=>beq i t || f i
theorem D9 (f:Nat→Bool):(fL f).length=256:=by simp [fL]
theorem Sq {f:Nat→Bool}{t:Nat}(h:t<256):(fL f)[t]?=some (.val (.bool (f t))):=by
 simp [fL,getElem?_map,List.getElem?_range h]
theorem Ow (f:Nat→Bool)(t:Nat):(fL f).set t (.val (.bool true))=fL (jF f t):=by
 apply List.ext_getElem?
 intro j
 rw [List.getElem?_set]
 simp only [fL,getElem?_map,length_map,List.length_range]
 by_cases hj:j<256
 ·rw [List.getElem?_range hj]
  by_cases e:t=j
  ·subst e;rw [if_pos rfl,if_pos hj];simp [jF]
  ·rw [if_neg e]
   have:beq j t=false:=by
    cases hb:beq j t
    ·rfl
    ·exact absurd (Nat.eq_of_beq_eq_true hb).symm e
   simp [jF,this]
 ·rw [List.getElem?_eq_none (by simpa using hj:(List.range 256).length≤j)]
  by_cases e:t=j
  ·rw [if_pos e,if_neg (by omega)];rfl
  ·rw [if_neg e];rfl
def dX:List il→(Nat→Bool)→AtS→(Int × Bs) ⊕ (AtS × (Nat→Bool))
 |[],f,a=>.inr (a,f)
 | (fl,t,v)::l,f,a=>bif f t.toNat then .inl (1,[]) else if cU fl t v=0 then dX l (jF f t.toNat) (a.put t v) else if cU fl t v=11 then .inl (11,[]) else .inl (cU fl t v,dn fl t v)
def lQ (a:AtS)(f:Nat→Bool):(Int × Bs) ⊕ AtS:=bif f 1 then (bif f 2 then (bif f 3 then .inr a else .inl (3,[bT 3])) else .inl (3,[bT 2])) else .inl (3,[bT 1])
def hU (b:Bs):(Int × Bs) ⊕ AtS:=bif jD b then (match dX (hJ b) (λ_=>false) uy with
 | .inl e=>.inl e
 | .inr (a,f)=>lQ a f) else .inl (1,[])
def cK (c s:Int)(d:Bs):TV:=.agg [.val (.int .i64 c),.val (.int .i64 s),.vec 1 d .none]
def AtS.fix (a:AtS):AtS:={a with x:=match a.x with
 | .vec 1 l _=>.vec 1 l .none
 |_=>.vec 1 [] .none}
def rz (b:Bs):TV:=match hU b with
 | .inl (s,d)=>.tup [uy.fix.tv,cK 3 s d]
 | .inr a=>.tup [a.fix.tv,cK 0 0 []]
theorem AtS.Ok.fix_le {a:AtS}(h:a.Ok):TVle a.tv a.fix.tv:=by
 obtain ⟨o,hh,m,hm,x⟩:=a
 rcases h with h | ⟨l,h⟩<;>simp only at h<;>subst h
 ·exact .agg ⟨.refl _,.nil 1,.refl _,.refl _,.refl _,trivial⟩
 ·exact .refl _
theorem AtS.Ok.fix_ren {a:AtS}(h:a.Ok)(f g:Nat→Option Nat):a.fix.tv.ren f g=a.fix.tv:=by
 obtain ⟨o,hh,m,hm,x⟩:=a
 rcases h with h | ⟨l,h⟩<;>simp only at h<;>subst h
 ·rfl
 ·simp only [AtS.tv,AtS.fix,TV.ren,ap,dm,Tok.ren]
def Ea (l:List il):Prop:=∀p∈l,(0≤p.1∧p.1<256)∧(0≤p.2.1∧p.2.1<256)∧IsB p.2.2∧p.2.2.length≤28800000
theorem Eb {n:Nat}{b:Bs}(h:IsB b)(e:Int):0≤aR n b e∧aR n b e<256^n:=by rw [Du];exact Dv h e
theorem Gw {b:Bs}(h:IsB b)(e:Int):0≤aR 1 b e∧aR 1 b e<256:=Eb (n:=1) h e
theorem Ss {n:Nat}{b:Bs}{e:Int}:(cm n b e).length≤n:=by
 have h:=vz (n:=n) (b:=b) (e:=e)
 revert h;cases cR n b e<;>simp only [cond_true,cond_false]<;>omega
theorem St {b:Bs}(h:IsB b):(iK b).length≤28800000:=by
 have h2:IsB (qL b):=aK (aK h)
 have h3:0≤yK b∧yK b<65536:=by
  unfold yK
  unfold ta
  cases lO (gM b)
  ·have:=Eb (n:=1) h2 (ur b)
   simp only [cond_false];omega
  ·exact Eb (n:=2) h2 (ur b)
 obtain ⟨k,hk⟩:=Int.eq_ofNat_of_zero_le h3.1
 have:=Ss (n:=k) (b:=sF b) (e:=xj b)
 unfold iK
 rw [hk] at h3 ⊢
 have h4:k<65536:=by omega
 exact le_trans this (by omega)
theorem Ec:∀(k:Nat) (b:Bs) (acc:List il),IsB b→Ea acc→∀l,gf k b acc=some l→Ea l
 | 0,_,_,_,_,l,h=>by cases h
 |k+1,b,acc,hb,ha,l,h=>by
  unfold gf at h
  cases h1:decide (bw b 0>0)<;>rw [h1] at h
  ·injection h with h;subst h;exact ha
  ·cases h2:decide (ut b=0)<;>rw [h2] at h
   ·cases h
   ·refine Ec k _ _ (Kz hb) (λp hp=> ?_) l h
    rcases mem_append.1 hp with h3 | h3
    ·exact ha p h3
    ·obtain rfl:=mem_singleton.1 h3
     exact ⟨Gw hb 0,Gw (aK hb) _,yL hb,St hb⟩
theorem Al {b:Bs}(hb:IsB b):Ea (hJ b):=by
 unfold hJ
 cases h:tb b with
 |none=>exact λp hp=>by simp at hp
 |some l=>exact Ec _ _ _ hb (λp hp=>by simp at hp) l h
theorem Su {b:Bs}:(hJ b).length≤b.length+1:=by
 have key:∀(k:Nat) (b:Bs) (acc l:List il),gf k b acc=some l→l.length≤acc.length+b.length+1:=by
  intro k
  induction k with
  |zero=>intro b acc l h;cases h
  |succ k ih=>
   intro b acc l h
   unfold gf at h
   by_cases hl:bw b 0>0
   ·rw [decide_eq_true hl] at h
    cases h2:decide (ut b=0)<;>rw [h2] at h
    ·cases h
    ·have h3:=ih _ _ _ h
     have h4:=yM hl
     simp only [length_append,length_cons,length_nil] at h3
     omega
   ·rw [decide_eq_false hl] at h
    injection h with h;subst h;omega
 unfold hJ
 cases h:tb b with
 |none=>simp
 |some l=>have:=key _ _ _ _ h;simpa using this
--bumped 32
abbrev uA:=84
def IF:aW:=λ_ ys T K=>match ys with
 |[.vec 1 b _]=>IsB b∧bif jD b then K (.tup [.vec 3 (fg b) .none,.agg [.val (.int .i64 0),.val (.int .i64 0),.vec 1 [] .none]]) T else K (.tup [.vec 3 (fg b) .none,.agg [.val (.int .i64 3),.val (.int .i64 1),.vec 1 [] .none]]) T
 |_=>aJ 83 default ys
def IG:aW:=λro ys T K=>match ys with
 |[.ptr k 0,.agg [.val (.int .i64 fl),.val (.int .i64 t),.vec 1 v .none]]=>match T.objs[k]? with
  |some (.cells [.val (.int .i64 o),x,.val (.int .u32 h),.val (.int .i64 m),.val (.bool hm)])=>(ble ro k=true∧IsB v∧Ov x)∧∀(s:Int) (O:VO),(s=cU fl t v∧(s=0→IE o h m hm x t v O))→K (.val (.int .i64 s)) {T with objs:=T.objs.set k O}
  |_=>aJ 80 default ys
 |_=>aJ 81 default ys
def II:aW:=λ_ ys T K=>match ys with
 |[.agg [.val (.int .i64 fl),.val (.int .i64 t),.vec 1 v .none]]=>kQ fl t v∧K (.vec 1 (dn fl t v) .none) T
 |_=>aJ 83 default ys
def sJ:TV:=.val (.slice none 0 0)
def wF:VO:=.cells [.val (.int .i64 0),sJ,.val (.int .u32 0),.val (.int .i64 0),.val (.bool false)]
def Gx:VO:=.cells [.val (.int .i64 0),.val (.int .i64 0),sJ]
def yR:List Nat:= [2,3,6,7,22,23,24]
def wG (L:Bs)(j:Int):List TV:= [.ptr 0 0,.ptr 1 0,.ptr 3 0,.ptr 4 0,.vec 3 L .none,.val (.int .i64 L.length),.val (.int .i64 j)]
def Gy:VO:=.cells [.val (.int .i64 0),.val (.int .i64 0),.vec 1 [] .none]
def mt0:VO:=.cells ((List.range 256).map λ_=>.val (.bool false))
def PU (N:Nat)(L:Bs)(ok:Bool)(s:Int)(d:Bs)(o h m:Int)(hm:Bool)(xn:Bool)(xl:Bs)(c1 c2 c3:Bool)(K:KX):Prop:=bif ok then (∀(j:Int) (c0:Bool) (rm:List TV),bif xn then K .normal (aQ N yR (wG L j)) ⟨[wF,Gx,Gy,nU o h m hm sJ,.cells (.val (.bool c0):: .val (.bool c1):: .val (.bool c2):: .val (.bool c3)::rm)],[]⟩ [] else K .normal (aQ N yR (wG L j)) ⟨[wF,Gx,Gy,nU o h m hm (.vec 1 xl .none),.cells (.val (.bool c0):: .val (.bool c1):: .val (.bool c2):: .val (.bool c3)::rm)],[]⟩ []) else ∀(j:Int) (dz:TV) (rest:List VO) (tlz:iJ),DzOk dz d→K .ret (aQ N yR (wG L j)) ⟨wF:: .cells [.val (.int .i64 3),.val (.int .i64 s),dz]::rest,tlz⟩ []
def aqL (N:Nat)(L:Bs)(ok:Bool)(s:Int)(d:Bs)(o h m:Int)(hm:Bool)(xn:Bool)(xl:Bs)(c1 c2 c3:Bool)(c0:Code):Nat→Option (bN × Code):=ct [(0,dE N yR [] (wG L 0) ⟨[wF,Gx,Gy,wF,mt0],[]⟩ (PU N L ok s d o h m hm xn xl c1 c2 c3),c0)]
theorem PV (b:Bs)(ok:Bool)(s:Int)(d:Bs)(o h m:Int)(hm:Bool)(xn:Bool)(xl:Bs)(c1 c2 c3:Bool)(Q:TV→VT→Prop):ar prog ae (aF [(uq,IF)]) (aZ [(999999,.dead,none)]) 300 (aqL 65 (fg b) ok s d o h m hm xn xl c1 c2 c3 (aD prog uA 0)) 0 uA [.vec 1 b .none] am Q=
 (IsB (b)∧
 (bif jD b
 then ((aD prog uA (0:Nat)=aD prog uA (0:Nat))∧
 (((@Eq (Option Nat) .none .none)∧
 ((@Eq (Nat) 0 0)∧
 ((@Eq (List Nat) [] [])∧
 (True  ∧
 ((@Eq (VT) PG PG)∧
 ((@Eq (Bool) true true)∧
 (@Eq (List TV) [dL,iy,om,mY,(oq (fg b)),(ah (↑(length (fg b)):Int)),aB] [dL,iy,om,mY,(oq (fg b)),(ah (↑(length (fg b)):Int)),aB])))))))∧
 (bif ok
 then (∀j:Int,(∀c0:Bool,(∀rm:List TV,(bif xn
 then (bif ax eql (aX (Value.bool false) (Value.bool c1))
 then Q (vB [[(.val (.int .u8 1))]]) (Im [[(.val (.int .u8 1))]] o h m hm ([(.val (.bool (c0))),(.val (.bool (c1))),(.val (.bool (c2))),(.val (.bool (c3)))]++rm))
 else (bif ax eql (aX (Value.bool false) (Value.bool c2))
 then Q (vB [[(.val (.int .u8 2))]]) (Im [[(.val (.int .u8 2))]] o h m hm ([(.val (.bool (c0))),(.val (.bool (c1))),(.val (.bool (c2))),(.val (.bool (c3)))]++rm))
 else (bif ax eql (aX (Value.bool false) (Value.bool c3))
 then Q (vB [[(.val (.int .u8 3))]]) (Im [[(.val (.int .u8 3))]] o h m hm ([(.val (.bool (c0))),(.val (.bool (c1))),(.val (.bool (c2))),(.val (.bool (c3)))]++rm))
 else Q (.tup [(.agg [(ah o),aE,(cd h),(ah m),(cS hm)]),mC]) ⟨[(Il o h m hm),cL,eg,(Il o h m hm),(.cells ([(.val (.bool (c0))),(.val (.bool (c1))),(.val (.bool (c2))),(.val (.bool (c3)))]++rm))],[]⟩)))
 else (bif ax eql (aX (Value.bool false) (Value.bool c1))
 then Q (vB [[(.val (.int .u8 1))]]) (Ik [[(.val (.int .u8 1))]] o xl h m hm ([(.val (.bool (c0))),(.val (.bool (c1))),(.val (.bool (c2))),(.val (.bool (c3)))]++rm))
 else (bif ax eql (aX (Value.bool false) (Value.bool c2))
 then Q (vB [[(.val (.int .u8 2))]]) (Ik [[(.val (.int .u8 2))]] o xl h m hm ([(.val (.bool (c0))),(.val (.bool (c1))),(.val (.bool (c2))),(.val (.bool (c3)))]++rm))
 else (bif ax eql (aX (Value.bool false) (Value.bool c3))
 then Q (vB [[(.val (.int .u8 3))]]) (Ik [[(.val (.int .u8 3))]] o xl h m hm ([(.val (.bool (c0))),(.val (.bool (c1))),(.val (.bool (c2))),(.val (.bool (c3)))]++rm))
 else Q (.tup [(.agg [(ah o),(av xl),(cd h),(ah m),(cS hm)]),mC]) ⟨[(pf o xl h m hm),cL,eg,(pf o xl h m hm),(.cells ([(.val (.bool (c0))),(.val (.bool (c1))),(.val (.bool (c2))),(.val (.bool (c3)))]++rm))],[]⟩)))))))
 else (∀j:Int,(∀dz:TV,(∀rest:List VO,(∀tlz:iJ,(DzOk (dz) (d)→Q (.tup [Ij,(.agg [dV,(ah s),dz])]) ⟨[(.cells [(.val (.int .i64 0)),(.val (.slice .none 0 0)),(.val (.int .u32 0)),(.val (.int .i64 0)),(.val (.bool false))]),(.cells [(.val (.int .i64 3)),(.val (.int .i64 (s))),(dz)])]++rest,tlz⟩))))))))
 else Q (.tup [Ij,(.agg [dV,dK,ij])]) ⟨[lL,PF,PF],[]⟩)):=by kernel_rfl
abbrev Co (L:Bs)(j:Int):List TV:=(PE L (↑(length L):Int) j)
theorem KO (L:Bs)(j fl t:Int)(v:Bs)(tn:Nat)(c:Bool)(M M2:List TV)(o h m:Int)(hm:Bool)(x:TV)(Q:Exit→List TV→VT→List Nat→Nat→Prop):vx prog ae (aF [(D4,IG),(qN,II)]) (aZ [(999999,.dead,none),(26,.elt [.val (.int .i64 fl),.val (.int .i64 t),.vec 1 v .none],none),(30,.ptr 4 tn,none),(31,.val (.bool c),some λT=>T),(36,.ptr 4 tn,none),(500036,.val undef,some λT=>{T with objs:=T.objs.set 4 (.cells M2)})]) 300 aN none 0 (cq prog uA 0) (aQ 65 yR (wG L j)) ⟨[wF,Gx,Gy,nU o h m hm x,.cells M],[]⟩ [] (cN yR Q)=
 (bif decide (j<(↑(length L):Int))
 then (bc prog (λ_=>.none) (.indexAddr 199 (.tmp 22) (.tmp 24)) [(22,(oq L)),(24,(ah j))] (.elt [(ah fl),(ah t),(av v)])∧
 (bc prog (λ_=>.none) (.indexAddr 202 (.tmp 7) (.tmp 29)) [(7,mY),(29,(ah t))] (.ptr 4 tn)∧
 (bb prog (λ_=>.none) 0 (Ce o x h m hm M fl t v) (.load 4 (.tmp 30)) [(30,(.ptr 4 tn))] (cS c) (Ce o x h m hm M fl t v)∧
 (bif c
 then Q .ret (Co L j) ⟨[lL,yA,eg,(eI o x h m hm),(.cells M),(en fl t v)],[]⟩ [] 65
 else (bc prog (λ_=>.none) (.indexAddr 202 (.tmp 7) (.tmp 35)) [(7,mY),(35,(ah t))] (.ptr 4 tn)∧
 (bb prog (λ_=>.none) 0 (Ce o x h m hm M fl t v) (.store 4 (.tmp 36) (.const (.bool true))) [(36,(.ptr 4 tn))] (.val (.tuple #[])) (Ce o x h m hm M2 fl t v)∧
 (((@Eq (Bool) true true)∧
 (IsB (v)∧
 Ov (x)))∧
 (∀s:Int,(∀O:VO,(((@Eq (Int) (s) (cU fl t v))∧
 ((@Eq (Int) (s) 0)→IE (o) (h) (m) (hm) (x) (t) (v) (O)))→(bif ax eql (k6 s (0:Int))
 then Q .normal (PE L (↑(length L):Int) (wrap i64 (j+(1:Int)))) ⟨[lL,cL,eg,O,(.cells M2),(en fl t v)],[]⟩ [] 65
 else (bif ax eql (k6 s (11:Int))
 then Q .ret (Co L j) ⟨[lL,(.cells [dV,(ah s),aE]),eg,O,(.cells M2),(en fl t v)],[]⟩ [] 65
 else (kQ (fl) (t) (v)∧
 Q .ret (Co L j) ⟨[lL,(Cd s (dn fl t v)),eg,O,(.cells M2),(en fl t v)],[]⟩ [] 65)))))))))))))
 else Q (.exit 0) (Co L j) ⟨[lL,cL,eg,(eI o x h m hm),(.cells M)],[]⟩ [] 65):=by kernel_rfl
section
variable {P:Program}{G:aV}
theorem KP {t e:TypeId}{x i:Operand}{l:List (Nat × TV)}{inf:TypeInfo}{id off n:Nat}{k:IntKind}{z:Int}(ht:P.underlying t=some (.array n e))(hi:P.info? e=some inf)
  (hx:aP G l x=.ptr id off) (hz:aP G l i=.val (.int k z)) (h0:0≤z) (h1:z<n):bc P G (.indexAddr t x i) l (.ptr id (off+z.toNat*inf.size)):=by
 refine ⟨?_⟩
 simp [bu,hx,hz,oE,gi,ht,hi,h0,h1]
theorem FQ {ro:Nat}{T:VT}{t:TypeId}{d:TypeDesc}{a:Operand}{l:List (Nat × TV)}{inf:TypeInfo}{id off:Nat}{cs:List TV}{y:TV}(ht:P.underlying t=some d)(hd:oM d=false)(hi:P.info? t=some inf)
  (ha:aP G l a=.ptr id off) (ho:T.objs[id]?=some (.cells cs)) (hy:cs[off]?=some y):bb P G ro T (.load t a) l y T:=by
 refine .mk ?_
 have hlt:=(List.getElem?_eq_some_iff.1 hy).1
 have hc:ek T (.ptr id off) 1=some [y]:=by
  simp only [ek,ho]
  rw [if_pos (by omega)]
  congr 1
  rw [List.take_one,List.head?_drop,hy];rfl
 have h1:bu P (.load t a) (aP G l)=none:=by simp [bu,dZ]
 have h2:br P T (.load t a) (aP G l)=some y:=by simp [br,dJ,lp,ht,hi,hd,ha,hc]
 simp only [gB,h1,h2]
theorem Ed {ro:Nat}{T:VT}{t:TypeId}{a x:Operand}{l:List (Nat × TV)}{inf:TypeInfo}{id off:Nat}{cs new:List TV}(hi:P.info? t=some inf)
  (ha:aP G l a=.ptr id off) (hx:bL (aP G l x)=some new) (ho:T.objs[id]?=some (.cells cs)) (hn:inf.size=new.length) (hle:off+new.length≤cs.length) (hc:new.all gQ=true) (hro:ro≤id):
  bb P G ro T (.store t a x) l (.val undef) {T with objs:=T.objs.set id (.cells (bW cs off new))}:=by
 refine .old ?_ ?_
 ·simp [pT,ha,hro]
 ·have h1:lr P T t (aP G l a) (aP G l x)=some (.val undef,{T with objs:=T.objs.set id (.cells (bW cs off new))}):=by
   simp only [lr,ha,ho,hx,hi]
   rw [if_pos ⟨hn,hle,hc⟩]
  simp [wb,dZ,dJ,oP,h1]
theorem KQ (cs:List TV)(off:Nat)(y:TV)(h:off<cs.length):bW cs off [y]=cs.set off y:=by
 unfold bW
 rw [List.set_eq_take_append_cons_drop,if_pos h]
 simp
end
theorem Sv {b:Bs}(hb:IsB b)(f g:Nat→Option Nat):(wC b).ren f g=wC b:=by
 simp only [wC,TV.ren,ap,Ak hb,Tok.ren,bk]
theorem Sw {f:FuncId}(h:∀{b:Bs},IsB b→VCx prog ae 0 f [.vec 1 b .none] ⟨[],[]⟩ λx T'=>x=wC b∧T'=⟨[],[]⟩):∀ro ys T K,IF ro ys T K→VCx prog ae ro f ys T K:=by
 intro ro ys T K hw
 unfold IF at hw
 split at hw
 ·rename_i b tok
  refine VCx.loosePure au (h hw.1) (by simp [cj]) (by simp [ap,TV.ren,hw.1.ren,Tok.ren]) (λf h=>Sv hw.1 f h) ?_
  have h2:=hw.2
  unfold wC
  cases hh:jD b<;>rw [hh] at h2<;>exact h2
 ·exact hw.elim
theorem Sx {o h m t:Int}{hm:Bool}{x:TV}{v:Bs}(hx:Ov x)(f g:Nat→Option Nat):(nV o h m hm x t v).ren f g=nV o h m hm x t v:=by
 unfold nV
 split
 ·exact eW hx f g
 split
 ·exact eW (xv v) f g
 split
 ·exact eW hx f g
 split
 ·exact eW hx f g
 ·exact eW hx f g
theorem Sy {f:FuncId}(hf:∀(o h m fl t:Int) (hm:Bool) {x:TV} (_:∀f g,x.ren f g=x) {v:Bs} (_:IsB v),VCx prog ae 0 f [.ptr 0 0,kP fl t v] ⟨[nU o h m hm x],[]⟩ (yQ o h m hm x fl t v)):∀ro ys T K,IG ro ys T K→VCx prog ae ro f ys T K:=by
 intro ro ys T K hw
 unfold IG at hw
 split at hw
 ·rename_i k fl t v
  split at hw
  ·rename_i o x h m hm ho
   obtain ⟨⟨hro,hv,hx⟩,hk⟩:=hw
   refine VCx.at1 (Q:=λy o' l'=>y=.val (.int .i64 (cU fl t v))∧l'= []∧(cU fl t v=0→o'=nV o h m hm x t v)) au (Nat.le_of_ble_eq_true hro) ho rfl (eW hx _ _) (ys1:= [.ptr 0 0,kP fl t v]) (by simp [ap,TV.ren,aU,kP,hv.ren,Tok.ren]) ((hf o h m fl t hm hx hv).mono ?_) ?_
   ·rintro y T' ⟨h1,O,h2,h3⟩
    exact ⟨O,[],h2,h1,rfl,h3⟩
   ·rintro y o' l' ⟨rfl,rfl,h3⟩
    simpa [TV.ren] using hk (cU fl t v) (o'.ren (ba T.objs.length [k]) (ba T.tails.length [])) ⟨rfl,λhs=>by
     unfold IE
     rw [h3 hs];exact Sx hx _ _⟩
  ·exact hw.elim
 ·exact hw.elim
theorem Sz {f:FuncId}(h:∀(fl t:Int) (v:Bs),kQ fl t v→VCx prog ae 0 f [kP fl t v] ⟨[],[]⟩ λx T'=>x=.vec 1 (dn fl t v) .none∧T'=⟨[],[]⟩):∀ro ys T K,II ro ys T K→VCx prog ae ro f ys T K:=by
 intro ro ys T K hw
 unfold II at hw
 split at hw
 ·rename_i fl t v
  have hv:=hw.1.2.2.1
  have hr:=ns (fl:=fl) (t:=t) hv hw.1.2.2.2
  exact VCx.liftPure au (h fl t v hw.1) (by simp [ap,TV.ren,kP,hv.ren,Tok.ren]) (λf g=>by simp only [TV.ren,hr.ren,Tok.ren]) hw.2
 ·exact hw.elim
theorem SA (fl t:Int)(v:Bs)(h:kQ fl t v):VCx prog ae 0 qN [kP fl t v] ⟨[],[]⟩ λx T'=>x=.vec 1 (dn fl t v) .none∧T'=⟨[],[]⟩:=by
 cases v with
 |nil=>exact D7 fl t
 |cons r v=>exact Gv fl t h.2.2.1 h.2.2.2
theorem Ox (f:Nat→Bool)(g h:Nat→Option Nat):ap g h (fL f)=fL f:=by
 simp only [gw,fL,List.map_map];rfl
theorem Oy (f:Nat→Bool)(g h:Nat→Option Nat):(VO.cells (fL f)).ren g h=.cells (fL f):=by
 simp only [VO.ren,Ox]
theorem KR (f:Nat→Bool):fL f=.val (.bool (f 0)):: .val (.bool (f 1)):: .val (.bool (f 2)):: .val (.bool (f 3))::(fL f).drop 4:=rfl
def Am (b:Bs):(Int × Bs) ⊕ (AtS × (Nat→Bool)):=dX (hJ b) (λ_=>false) uy
theorem An:∀(l:List il) (f:Nat→Bool) (a:AtS),a.Ok→∀a' f',dX l f a=.inr (a',f')→a'.Ok
 |[],f,a,h,a',f',e=>by injection e with e;injection e with e1 e2;exact e1▸h
 | (fl,t,v)::l,f,a,h,a',f',e=>by
  unfold dX at e
  cases hf:f t.toNat<;>rw [hf] at e
  ·simp only [cond_false] at e
   split at e
   ·exact An l _ _ (h.put t v) a' f' e
   ·split at e<;>cases e
  ·cases e
def PW (a:AtS)(f:Nat→Bool):VT:=⟨[wF,Gx,Gy,a.vo,.cells (fL f)],[]⟩
def ftV (s:Int)(dz:TV):VO:=.cells [.val (.int .i64 3),.val (.int .i64 s),dz]
def KT (b:Bs)(ex:Exit)(vs:List TV)(T:VT):Prop:=
 (∃(a:AtS) (f:Nat→Bool) (j:Int),Am b=.inr (a,f)∧ex=.normal∧vs=wG (fg b) j∧T=PW a f)∨
 (∃(s:Int) (d:Bs) (dz:TV) (rest:List VO) (tlz:iJ) (j:Int),Am b=.inl (s,d)∧DzOk dz d∧ex=.ret∧vs=wG (fg b) j∧T=⟨wF::ftV s dz::rest,tlz⟩)
def yS (b:Bs)(ok:Bool)(s:Int)(d:Bs)(o h m:Int)(hm:Bool)(xn:Bool)(xl:Bs)(c1 c2 c3:Bool):Prop:=
 (ok=false∧Am b=.inl (s,d))∨(ok=true∧∃f,Am b=.inr (⟨o,h,m,hm,bif xn then sJ else .vec 1 xl .none⟩,f)∧c1=f 1∧c2=f 2∧c3=f 3)
theorem KU {N:Nat}{b:Bs}{ok:Bool}{s:Int}{d:Bs}{o h m:Int}{hm xn:Bool}{xl:Bs}{c1 c2 c3:Bool}{K:KX}(hp:yS b ok s d o h m hm xn xl c1 c2 c3)(hK:PU N (fg b) ok s d o h m hm xn xl c1 c2 c3 K){ex:Exit}{vs:List TV}{T:VT}(hq:KT b ex vs T):K ex (aQ N yR vs) T []:=by
 unfold PU at hK
 rcases hp with ⟨rfl,hr⟩ | ⟨rfl,f,hr,rfl,rfl,rfl⟩
 ·rcases hq with ⟨a,f,j,h1,_⟩ | ⟨s',d',dz,rest,tlz,j,h1,h2,rfl,rfl,rfl⟩
  ·rw [hr] at h1;cases h1
  ·rw [hr] at h1;injection h1 with h1;injection h1 with e1 e2;subst e1 e2
   exact hK j dz rest tlz h2
 ·rcases hq with ⟨a,f',j,h1,rfl,rfl,rfl⟩ | ⟨s',d',dz,rest,tlz,j,h1,_⟩
  ·rw [hr] at h1;injection h1 with h1;injection h1 with e1 e2;subst e1 e2
   have h3:=hK j (f 0) ((fL f).drop 4)
   unfold PW
   rw [KR f]
   cases xn<;>exact h3
  ·rw [hr] at h1;cases h1
theorem Oz {x i:Operand}{l:List (Nat × TV)}{es:Bs}{tok:Tok}{k:IntKind}{z:Int}{cs:List TV}(hx:aP ae l x=.vec 3 es tok)(hz:aP ae l i=.val (.int k z))(h0:0≤z)(he:es[z.toNat]?=some cs):bc prog ae (.indexAddr 199 x i) l (.elt cs):=by
 obtain ⟨inf,i1,i2,i3,i4⟩:=DR
 exact dy (inf:=inf) Tryz.underlying199 i1 (by rw [i2];exact hx) hz h0 he
theorem xw:∃inf:TypeInfo,prog.info? 4=some inf∧inf.size=1:=⟨(prog.info? 4).getD default,by kernel_rfl,by kernel_rfl⟩
theorem OA:∃d:TypeDesc,prog.underlying 4=some d∧oM d=false:=⟨_,Tryz.underlying4,rfl⟩
theorem Bo {x i:Operand}{l:List (Nat × TV)}{id:Nat}{k:IntKind}{z:Int}(hx:aP ae l x=.ptr id 0)(hz:aP ae l i=.val (.int k z))(h0:0≤z)(h1:z<256):bc prog ae (.indexAddr 202 x i) l (.ptr id z.toNat):=by
 obtain ⟨inf,i1,i2⟩:=xw
 have h:=KP (P:=prog) (G:=ae) (inf:=inf) (t:=202) (x:=x) (i:=i) (l:=l) Tryz.underlying202 i1 hx hz h0 h1
 rwa [i2,Nat.mul_one,zero_add] at h
theorem KV {T:VT}{a:Operand}{l:List (Nat × TV)}{id off:Nat}{f:Nat→Bool}(ha:aP ae l a=.ptr id off)(ho:T.objs[id]?=some (.cells (fL f)))(h1:off<256):bb prog ae 0 T (.load 4 a) l (.val (.bool (f off))) T:=by
 obtain ⟨inf,i1,i2⟩:=xw
 obtain ⟨d,d1,d2⟩:=OA
 exact FQ d1 d2 i1 ha ho (Sq h1)
theorem IJ {T T':VT}{a:Operand}{l:List (Nat × TV)}{id off:Nat}{f:Nat→Bool}(ha:aP ae l a=.ptr id off)(ho:T.objs[id]?=some (.cells (fL f)))(h1:off<256)(hT:{T with objs:=T.objs.set id (.cells (fL (jF f off)))}=T'):bb prog ae 0 T (.store 4 a (.const (.bool true))) l (.val (.tuple #[])) T':=by
 obtain ⟨inf,i1,i2⟩:=xw
 have h:=Ed (P:=prog) (G:=ae) (ro:=0) (T:=T) (t:=4) (a:=a) (x:=.const (.bool true)) (l:=l) (inf:=inf) (id:=id) (off:=off) (cs:=fL f) (new:= [.val (.bool true)]) i1 ha rfl ho (by rw [i2];rfl) (by rw [D9];exact h1) rfl (zero_le _)
 rw [KQ _ _ _ (by rw [D9];exact h1),Ow,hT] at h
 exact h
abbrev Vx:=Nat × (Nat→Bool) × AtS
theorem Vy:bf prog ae (aF [(D4,IG),(qN,II)]):=aL λp hp=>by
 rcases mem_cons.1 hp with rfl | hp;exact Sy Sm
 obtain rfl:=mem_singleton.1 hp;exact Sz SA
theorem OB {b:Bs}(hb:IsB b){ok:Bool}{s:Int}{d:Bs}{o h m:Int}{hm xn:Bool}{xl:Bs}{c1 c2 c3:Bool}(hp:yS b ok s d o h m hm xn xl c1 c2 c3)(K:KX)(hK:PU 65 (fg b) ok s d o h m hm xn xl c1 c2 c3 K):VWx prog ae none 0 (aD prog uA 0) (aQ 65 yR (wG (fg b) 0)) ⟨[wF,Gx,Gy,wF,mt0],[]⟩ [] K:=by
 have hA:=Al hb
 have hAl:=Su (b:=b)
 have hsm:=hb.small
 let sl:Vx→List TV:=λs=>wG (fg b) s.1
 let TT:Vx→VT:=λs=>PW s.2.2 s.2.1
 refine dO (f:=uA) (id:=0) (by kernel_rfl) 65 yR (λs:Vx=>(hJ b).length-s.1) sl TT (λs=>s.1≤(hJ b).length∧s.2.2.Ok∧dX ((hJ b).drop s.1) s.2.1 s.2.2=Am b) 5 0 (λ_ _=>⟨le_refl _,le_refl _⟩)
  (KT b) (λs hs=> ?_) ⟨0,λ_=>false,uy⟩ ⟨zero_le _,uz,rfl⟩ K (λex vs T h=>KU hp hK h)
 obtain ⟨k,f,a⟩:=s
 obtain ⟨hk,ha,hgo⟩:=hs
 simp only at hk ha hgo
 have hL:(fg b).length=(hJ b).length:=by simp [fg]
 by_cases hlt:k<(hJ b).length
 ·obtain ⟨fl,t,v,hat⟩:∃fl t v,(hJ b)[k]?=some (fl,t,v):=⟨_,_,_,getElem?_eq_getElem hlt⟩
  obtain ⟨h1,h2,hv,hvl⟩:=hA _ (List.mem_of_getElem? hat)
  simp only at h1 h2 hv hvl
  have htn:t.toNat<256:=by omega
  have hdrop:(hJ b).drop k=(fl,t,v)::(hJ b).drop (k+1):=by
   rw [List.drop_eq_getElem_cons hlt]
   have:=getElem?_eq_getElem hlt
   rw [hat] at this;injection this with this;rw [←this]
  rw [hdrop] at hgo
  have hE:(fg b)[((k:Nat):Int).toNat]?=some (gt (fl,t,v)):=by
   rw [Int.toNat_natCast];simp [fg,getElem?_map,hat]
  refine bF ac aa Vy ai (KO (fg b) k fl t v t.toNat (f t.toNat) (fL f) (fL (jF f t.toNat)) a.o a.h a.m a.hm a.x _) ?_
  refine aS (decide_eq_true (show ((k:Nat):Int)<((fg b).length:Nat) by omega)) ⟨Oz rfl rfl (by omega) hE,Bo rfl rfl h2.1 h2.2,KV rfl rfl htn,?_⟩
  cases hf:f t.toNat
  ·refine ⟨Bo rfl rfl h2.1 h2.2,IJ rfl rfl htn rfl,⟨rfl,hv,ha.ren⟩,?_⟩
   rintro s O ⟨hs,hO⟩
   have hgo1:dX ((fl,t,v)::(hJ b).drop (k+1)) f a=(if cU fl t v=0 then dX ((hJ b).drop (k+1)) (jF f t.toNat) (a.put t v) else if cU fl t v=11 then .inl (11,[]) else .inl (cU fl t v,dn fl t v)):=by
    simp only [dX,hf,cond_false]
   rw [←hs] at hgo1
   refine aq (λe0=> ?_) (λe0=> ?_)
   ·replace e0:s=0:=dM e0
    have hO2:O=(a.put t v).vo:=by
     have:=hO e0
     unfold IE at this
     rw [this,Sp]
    rw [b6 (z:=((k:Nat):Int)+1) (by omega) (by omega)]
    refine ⟨rfl,rfl,⟨k+1,jF f t.toNat,a.put t v⟩,⟨hlt,ha.put t v,?_⟩,by simp only;omega,.inr ⟨?_,?_⟩⟩
    ·simp only;rw [←hgo,hgo1,if_pos e0]
    ·show VT.keep _ 5 0=PW _ _
     simp only [VT.keep,take_succ_cons,take_zero,map_cons,map_nil,hO2,(ha.put t v).vo_ren,Oy]
     rfl
    ·simp only [ap,TV.ren,Ak hb,Tok.ren]
     simp only [sl,wG]
     rfl
   ·replace e0:¬s=0:=dq e0
    rw [if_neg e0] at hgo1
    refine aq (λe1=> ?_) (λe1=> ?_)
    ·replace e1:s=11:=dM e1
     rw [if_pos e1] at hgo1
     exact ⟨rfl,rfl,.inr ⟨11,[],_,_,_,k,by rw [←hgo,hgo1],.nil,rfl,rfl,by rw [e1];rfl⟩⟩
    ·replace e1:¬s=11:=dq e1
     rw [if_neg e1] at hgo1
     exact ⟨⟨h1,h2,hv,hvl⟩,rfl,rfl,.inr ⟨s,dn fl t v,_,_,_,k,by rw [←hgo,hgo1],.inr ⟨rfl,ns hv hvl⟩,rfl,rfl,rfl⟩⟩
  ·have hgo1:dX ((fl,t,v)::(hJ b).drop (k+1)) f a=.inl (1,[]):=by
    simp only [dX,hf,cond_true]
   exact ⟨rfl,rfl,.inr ⟨1,[],_,_,_,k,by rw [←hgo,hgo1],.nil,rfl,rfl,rfl⟩⟩
 ·have hk2:k=(hJ b).length:=by omega
  refine bF ac aa Vy ai (KO (fg b) k 0 0 [] 0 false (fL f) [] a.o a.h a.m a.hm a.x _) ?_
  rw [hk2,List.drop_length] at hgo
  exact aO (decide_eq_false (show ¬((k:Nat):Int)<((fg b).length:Nat) by omega)) ⟨rfl,rfl,.inl ⟨a,f,k,hgo.symm,rfl,rfl,rfl⟩⟩
theorem Gz {b:Bs}(hb:IsB b){ok:Bool}{s:Int}{d:Bs}{o h m:Int}{hm xn:Bool}{xl:Bs}{c1 c2 c3:Bool}(hp:yS b ok s d o h m hm xn xl c1 c2 c3):dd prog ae (aqL 65 (fg b) ok s d o h m hm xn xl c1 c2 c3 (aD prog uA 0)):=bA λp hq=>by
 obtain rfl:=mem_singleton.1 hq
 exact b9 λK hK=>OB hb hp K hK
theorem oL {b:Bs}{s:Int}{d:Bs}(h:hU b=.inl (s,d)){dz:TV}(hd:TVle dz (.vec 1 d .none)):TVle (.tup [.agg [.val (.int .i64 0),sJ,.val (.int .u32 0),.val (.int .i64 0),.val (.bool false)],.agg [.val (.int .i64 3),.val (.int .i64 s),dz]]) (rz b):=by
 unfold rz
 rw [h]
 exact .tup ⟨.agg ⟨.refl _,.nil 1,.refl _,.refl _,.refl _,trivial⟩,.agg ⟨.refl _,.refl _,hd,trivial⟩,trivial⟩
theorem SB {b:Bs}{a:AtS}(h:hU b=.inr a)(ha:a.Ok):TVle (.tup [a.tv,.agg [.val (.int .i64 0),.val (.int .i64 0),sJ]]) (rz b):=by
 unfold rz
 rw [h]
 exact .tup ⟨ha.fix_le,.agg ⟨.refl _,.refl _,.nil 1,trivial⟩,trivial⟩
theorem Ao (b:Bs)(f g:Nat→Option Nat)(hb:IsB b):(rz b).ren f g=rz b:=by
 have hd:∀s d,hU b=.inl (s,d)→bk f g d=d:=by
  intro s d h
  unfold hU at h
  cases ho:jD b<;>rw [ho] at h
  ·injection h with h;injection h with h1 h2;rw [←h2];rfl
  ·simp only [cond_true] at h
   have key:∀(l:List il) (f':Nat→Bool) (a:AtS),Ea l→∀s d,dX l f' a=.inl (s,d)→bk f g d=d:=by
    intro l
    induction l with
    |nil=>intro f' a _ s d e;cases e
    |cons p l ih=>
     obtain ⟨fl,t,v⟩:=p
     intro f' a hl s d e
     unfold dX at e
     obtain ⟨_,_,hv,hvl⟩:=hl _ mem_cons_self
     cases hf:f' t.toNat<;>rw [hf] at e
     ·simp only [cond_false] at e
      split at e
      ·exact ih _ _ (λp hp=>hl p (List.mem_cons_of_mem _ hp)) s d e
      ·split at e
       ·injection e with e;injection e with e1 e2;rw [←e2];rfl
       ·injection e with e;injection e with e1 e2;rw [←e2];exact (ns hv hvl).ren f g
     ·injection e with e;injection e with e1 e2;rw [←e2];rfl
   split at h
   ·rename_i e he
    injection h with h;subst h
    exact key _ _ _ (Al hb) s d he
   ·rename_i a f' he
    unfold lQ at h
    cases g1:f' 1<;>cases g2:f' 2<;>cases g3:f' 3<;>simp only [g1,g2,g3,cond_true,cond_false] at h<;>first | (cases h;done) | (injection h with h;injection h with e1 e2;rw [←e2];rfl)
 have ha:∀a,hU b=.inr a→a.Ok:=by
  intro a h
  unfold hU at h
  cases ho:jD b<;>rw [ho] at h
  ·cases h
  ·simp only [cond_true] at h
   split at h
   ·cases h
   ·rename_i a' f' he
    have:=An _ _ _ uz _ _ he
    unfold lQ at h
    cases g1:f' 1<;>cases g2:f' 2<;>cases g3:f' 3<;>simp only [g1,g2,g3,cond_true,cond_false] at h<;>first | (cases h;done) | (injection h with h;exact h▸this)
 unfold rz
 split
 ·rename_i s d h
  simp only [TV.ren,ap,cK,hd s d h,uz.fix_ren,Tok.ren]
 ·rename_i a h
  simp only [TV.ren,ap,cK,(ha a h).fix_ren,Tok.ren,bk]
theorem Vz {b:Bs}(hb:IsB b):VCx prog ae 0 uA [.vec 1 b .none] ⟨[],[]⟩ λx T'=>x=rz b∧T'=⟨[],[]⟩:=by
 have hS:bf prog ae (aF [(uq,IF)]):=aL λp hp=>by obtain rfl:=mem_singleton.1 hp;exact Sw Vj
 refine VCx.toLe (Q:=λT'=>T'=⟨[],[]⟩) (VCx.keepQ 0 0 (le_refl _) (le_refl _) ?_)
 cases hR:Am b with
 |inl e=>
  obtain ⟨s,d⟩:=e
  have hp:yS b false s d 0 0 0 false false [] false false false:=.inl ⟨rfl,hR⟩
  refine ak ac aa hS (Gz hb hp) (PV b false s d 0 0 0 false false [] false false false _) ?_
  refine ⟨hb,aq (λho=>⟨rfl,⟨rfl,rfl,rfl,trivial,rfl,rfl,rfl⟩,λj dz rest tlz hd=>⟨?_,rfl⟩⟩) (λho=>⟨?_,rfl⟩)⟩
  ·have h1:hU b=.inl (s,d):=by
    unfold hU;rw [ho]
    simp only [cond_true]
    rw [show dX (hJ b) (λ_=>false) uy=.inl (s,d) from hR]
   exact oL h1 (hd.le _ _)
  ·have h1:hU b=.inl (1,[]):=by unfold hU;rw [ho];rfl
   exact oL h1 (.refl _)
 |inr e=>
  obtain ⟨a,f⟩:=e
  have ha:=An _ _ _ uz _ _ hR
  obtain ⟨xn,xl,hx,hl⟩:∃(xn:Bool) (xl:Bs),a.x=(bif xn then sJ else .vec 1 xl .none)∧∀f g,bk f g xl=xl:=by
   rcases ha with h | ⟨l,h⟩
   ·exact ⟨true,[],h,λ_ _=>rfl⟩
   ·exact ⟨false,iV l,h,λf g=>dm f g l⟩
  obtain ⟨o,h,m,hm,x⟩:=a
  simp only at hx
  subst hx
  have hp:yS b true 0 [] o h m hm xn xl (f 1) (f 2) (f 3):=.inr ⟨rfl,f,hR,rfl,rfl,rfl⟩
  have hgo:jD b=true→hU b=lQ ⟨o,h,m,hm,bif xn then sJ else .vec 1 xl .none⟩ f:=λho=>by
   unfold hU;rw [ho]
   simp only [cond_true]
   rw [show dX (hJ b) (λ_=>false) uy=.inr (⟨o,h,m,hm,bif xn then sJ else .vec 1 xl .none⟩,f) from hR]
  refine ak ac aa hS (Gz hb hp) (PV b true 0 [] o h m hm xn xl (f 1) (f 2) (f 3) _) ?_
  refine ⟨hb,aq (λho=>⟨rfl,⟨rfl,rfl,rfl,trivial,rfl,rfl,rfl⟩,λj c0 rm=> ?_⟩) (λho=>⟨?_,rfl⟩)⟩
  ·have h2:=hgo ho
   unfold lQ at h2
   cases e1:f 1
   ·rw [e1] at h2
    cases xn<;>exact ⟨oL h2 (TVle.vec 1 _ _),rfl⟩
   ·cases e2:f 2
    ·rw [e1,e2] at h2
     cases xn<;>exact ⟨oL h2 (TVle.vec 1 _ _),rfl⟩
    ·cases e3:f 3
     ·rw [e1,e2,e3] at h2
      cases xn<;>exact ⟨oL h2 (TVle.vec 1 _ _),rfl⟩
     ·rw [e1,e2,e3] at h2
      have h3:=SB h2 ha
      cases xn
      ·refine ⟨?_,rfl⟩
       simp only [TV.ren,ap,hl,Tok.ren]
       exact h3
      ·exact ⟨h3,rfl⟩
  ·have h1:hU b=.inl (1,[]):=by unfold hU;rw [ho];rfl
   exact oL h1 (.refl _)
def hZ (b:Bs):Bool:=match hU b with
 | .inr _=>true
 | .inl _=>false
def kf (b:Bs):Int:=match hU b with
 | .inr _=>0
 | .inl e=>e.1
def jG (b:Bs):Bs:=match hU b with
 | .inr _=> []
 | .inl e=>e.2
def lR (b:Bs):AtS:=match hU b with
 | .inr a=>a.fix
 | .inl _=>uy.fix
def nJ (b:Bs):Int:=(lR b).o
def nK (b:Bs):Int:=(lR b).h
def nL (b:Bs):Int:=(lR b).m
def nM (b:Bs):Bool:=(lR b).hm
def i9 (b:Bs):Bs:=match (lR b).x with
 | .vec _ l _=>l
 |_=> []
theorem Zn (a:AtS):∃l,a.fix.x=.vec 1 l .none:=by
 unfold AtS.fix
 simp only
 split
 ·exact ⟨_,rfl⟩
 ·exact ⟨_,rfl⟩
theorem KW (b:Bs):(lR b).x=.vec 1 (i9 b) .none:=by
 obtain ⟨l,hl⟩:∃l,(lR b).x=.vec 1 l .none:=by
  unfold lR
  split<;>exact Zn _
 rw [hl];unfold i9;rw [hl]
def Ap (b:Bs):TV:=.agg [.val (.int .i64 (nJ b)),.vec 1 (i9 b) .none,.val (.int .u32 (nK b)),.val (.int .i64 (nL b)),.val (.bool (nM b))]
theorem GA (b:Bs):(lR b).tv=Ap b:=by
 unfold AtS.tv Ap
 rw [KW];rfl
theorem KY {b:Bs}(h:hZ b=true):rz b=.tup [Ap b,cK 0 0 []]:=by
 rw [←GA]
 unfold rz lR
 unfold hZ at h
 cases e:hU b with
 |inl x=>rw [e] at h;cases h
 |inr a=>rfl
theorem KZ {b:Bs}(h:hZ b=false):rz b=.tup [uy.fix.tv,cK 3 (kf b) (jG b)]:=by
 unfold rz kf jG
 unfold hZ at h
 cases e:hU b with
 |inl x=>rfl
 |inr a=>rw [e] at h;cases h
theorem OC {b:Bs}(hb:IsB b)(f g:Nat→Option Nat):(Ap b).ren f g=Ap b:=by
 cases h:hZ b
 ·rw [←GA]
  unfold lR
  unfold hZ at h
  cases e:hU b with
  |inl x=>exact uz.fix_ren f g
  |inr a=>rw [e] at h;cases h
 ·have h1:=Ao b f g hb
  rw [KY h] at h1
  simp only [TV.ren,ap] at h1
  injection h1 with h1;injection h1 with h1
theorem OD {b:Bs}(hb:IsB b)(f g:Nat→Option Nat):bk f g (i9 b)=i9 b:=by
 have h:=OC hb f g
 simp only [Ap,TV.ren,ap] at h
 injection h with h;injection h with _ h;injection h with h;injection h with _ h
theorem OE {b:Bs}(hb:IsB b)(f g:Nat→Option Nat):bk f g (jG b)=jG b:=by
 cases h:hZ b
 ·have h1:=Ao b f g hb
  rw [KZ h] at h1
  simp only [TV.ren,ap,cK] at h1
  injection h1 with h1;injection h1 with _ h1;injection h1 with h1;injection h1 with h1;injection h1 with _ h1;injection h1 with _ h1;injection h1 with h1;injection h1 with _ h1
 ·unfold jG
  unfold hZ at h
  cases e:hU b with
  |inl x=>rw [e] at h;cases h
  |inr a=>rfl
structure UpS where
 w:Bs
 o:Int
 x:Bs
 h:Int
 m:Int
 hm:Bool
 n:Bs
def UpS.cells (u:UpS):List TV:= [.vec 2 u.w .none,.val (.int .i64 u.o),.vec 1 u.x .none,.val (.int .u32 u.h),.val (.int .i64 u.m),.val (.bool u.hm),.vec 2 u.n .none]
def UpS.tv (u:UpS):TV:=.agg u.cells
def nW:UpS:=⟨[],0,[],0,0,false,[]⟩
def nN (b:Bs):Bs:=aG (aR 2 b 0) (aG (2:Nat) b 0) (aH (2:Nat) b 0)
def pu (b:Bs):Int:=aH (aR 2 b 0) (aG (2:Nat) b 0) (aH (2:Nat) b 0)
def im (b:Bs):Bs:=cm (aR 2 b 0) (aG (2:Nat) b 0) (aH (2:Nat) b 0)
def cI (b:Bs):Bs:=cm (aR 2 (nN b) (pu b)) (aG (2:Nat) (nN b) (pu b)) (aH (2:Nat) (nN b) (pu b))
def Aq (b:Bs):Bs:=aG (aR 2 (nN b) (pu b)) (aG (2:Nat) (nN b) (pu b)) (aH (2:Nat) (nN b) (pu b))
def Ar (b:Bs):Int:=aH (aR 2 (nN b) (pu b)) (aG (2:Nat) (nN b) (pu b)) (aH (2:Nat) (nN b) (pu b))
def eX (b:Bs):Bs:=cm (bw (Aq b) (Ar b)) (Aq b) (Ar b)
def K0 (b:Bs):Int:=aH (bw (Aq b) (Ar b)) (Aq b) (Ar b)
theorem GB {b:Bs}(h:IsB b):IsB (nN b):=aK (aK h)
theorem K1 {b:Bs}(h:IsB b):IsB (im b):=iI (aK h)
theorem yT {b:Bs}(h:IsB b):IsB (cI b):=iI (aK (GB h))
theorem K2 {b:Bs}(h:IsB b):IsB (eX b):=iI (aK (aK (GB h)))
def iL (b:Bs):(Int × Bs) ⊕ UpS:=
 if ¬K0 b=0 then .inl (1,[]) else
 bif gK (im b) then bif gK (eX b) then
  (if (cI b).length=0∧(bg (eX b)).length=0 then .inr {nW with w:=bg (im b),n:=bg (eX b)}
  else bif hZ (cI b) then (if 0<(bg (eX b)).length then .inr ⟨bg (im b),nJ (cI b),i9 (cI b),nK (cI b),nL (cI b),nM (cI b),bg (eX b)⟩ else .inr {nW with w:=bg (im b),n:=bg (eX b)})
  else if 0<(bg (eX b)).length then .inl (kf (cI b),jG (cI b)) else if kf (cI b)=3 then .inr {nW with w:=bg (im b),n:=bg (eX b)} else .inl (kf (cI b),jG (cI b)))
 else .inl (10,[]) else .inl (10,[])
def Ee (p:(Int × Bs) ⊕ UpS):TV:=match p with
 | .inl (s,d)=>.tup [nW.tv,cK 3 s d]
 | .inr u=>.tup [u.tv,cK 0 0 []]
def qn (b:Bs):TV:=Ee (iL b)
def OF (u:UpS):Prop:=∀f g,u.tv.ren f g=u.tv
theorem K3 {b:Bs}(hb:IsB b){u:UpS}(h:iL b=.inr u):OF u:=by
 have e1:OF {nW with w:=bg (im b),n:=bg (eX b)}:=λf g=>by simp only [UpS.tv,UpS.cells,nW,TV.ren,ap,vJ,Tok.ren,bk]
 have e2:OF ⟨bg (im b),nJ (cI b),i9 (cI b),nK (cI b),nL (cI b),nM (cI b),bg (eX b)⟩:=λf g=>by simp only [UpS.tv,UpS.cells,TV.ren,ap,vJ,OD (yT hb),Tok.ren]
 unfold iL at h
 split at h
 ·cases h
 cases g1:gK (im b)<;>simp only [g1,cond_true,cond_false] at h
 ·cases h
 cases g2:gK (eX b)<;>simp only [g2,cond_true,cond_false] at h
 ·cases h
 split at h
 ·injection h with h;exact h▸e1
 cases g3:hZ (cI b)<;>simp only [g3,cond_true,cond_false] at h
 ·split at h
  ·cases h
  split at h
  ·injection h with h;exact h▸e1
  ·cases h
 ·split at h
  ·injection h with h;exact h▸e2
  ·injection h with h;exact h▸e1
theorem K4 {b:Bs}(hb:IsB b){s:Int}{d:Bs}(h:iL b=.inl (s,d))(f g:Nat→Option Nat):bk f g d=d:=by
 have hd:=OE (yT hb) f g
 unfold iL at h
 split at h
 ·injection h with h;injection h with _ h;rw [←h];rfl
 cases g1:gK (im b)<;>simp only [g1,cond_true,cond_false] at h
 ·injection h with h;injection h with _ h;rw [←h];rfl
 cases g2:gK (eX b)<;>simp only [g2,cond_true,cond_false] at h
 ·injection h with h;injection h with _ h;rw [←h];rfl
 split at h
 ·cases h
 cases g3:hZ (cI b)<;>simp only [g3,cond_true,cond_false] at h
 ·split at h
  ·injection h with h;injection h with _ h;rw [←h];exact hd
  split at h
  ·cases h
  ·injection h with h;injection h with _ h;rw [←h];exact hd
 ·split at h<;>cases h
theorem GC {b:Bs}(hb:IsB b)(f g:Nat→Option Nat):(qn b).ren f g=qn b:=by
 unfold qn Ee
 split
 ·rename_i s d h
  have:=K4 hb h f g
  simp only [TV.ren,ap,cK,UpS.tv,UpS.cells,nW,bk,this,Tok.ren]
 ·rename_i u h
  have:=K3 hb h f g
  simp only [TV.ren,ap,cK,this,bk,Tok.ren]
abbrev GD:=48
def IK:aW:=λ_ ys T K=>match ys with
 |[.vec 1 b _]=>IsB b∧bif gK b then K (.tup [.vec 2 (bg b) .none,.val (.bool true)]) T else K (.tup [.vec 2 (bg b) .none,.val (.bool false)]) T
 |_=>aJ 83 default ys
def PX:aW:=λ_ ys T K=>match ys with
 |[.vec 1 b _]=>IsB b∧bif hZ b then K (.tup [.agg [.val (.int .i64 (nJ b)),.vec 1 (i9 b) .none,.val (.int .u32 (nK b)),.val (.int .i64 (nL b)),.val (.bool (nM b))],.agg [.val (.int .i64 0),.val (.int .i64 0),.vec 1 [] .none]]) T
  else K (.tup [.agg [.val (.int .i64 0),.vec 1 [] .none,.val (.int .u32 0),.val (.int .i64 0),.val (.bool false)],.agg [.val (.int .i64 3),.val (.int .i64 (kf b)),.vec 1 (jG b) .none]]) T
 |_=>aJ 83 default ys
theorem SC {f:FuncId}(h:∀b,IsB b→VCx prog ae 0 f [.vec 1 b .none] ⟨[],[]⟩ λx T'=>x=A9 b∧T'=⟨[],[]⟩):∀ro ys T K,IK ro ys T K→VCx prog ae ro f ys T K:=by
 intro ro ys T K hw
 unfold IK at hw
 split at hw
 ·rename_i b tok
  refine VCx.loosePure au (h b hw.1) (by simp [cj]) (by simp [ap,TV.ren,hw.1.ren,Tok.ren]) (λf h=>R8 b f h) ?_
  have h2:=hw.2
  unfold A9
  cases hh:gK b<;>rw [hh] at h2<;>exact h2
 ·exact hw.elim
theorem VA {f:FuncId}(h:∀{b:Bs},IsB b→VCx prog ae 0 f [.vec 1 b .none] ⟨[],[]⟩ λx T'=>x=rz b∧T'=⟨[],[]⟩):∀ro ys T K,PX ro ys T K→VCx prog ae ro f ys T K:=by
 intro ro ys T K hw
 unfold PX at hw
 split at hw
 ·rename_i b tok
  refine VCx.loosePure au (h hw.1) (by simp [cj]) (by simp [ap,TV.ren,hw.1.ren,Tok.ren]) (λf h=>Ao b f h hw.1) ?_
  have h2:=hw.2
  cases hh:hZ b<;>rw [hh] at h2
  ·rw [KZ hh];exact h2
  ·rw [KY hh];exact h2
 ·exact hw.elim
theorem PY {n:Nat}(h:decide ((n:Int)>0)=true):0<n:=by
 have:=of_decide_eq_true h;omega
theorem As {n:Nat}(h:decide ((n:Int)>0)=false):¬0<n:=by
 have:=of_decide_eq_false h;omega
section
variable {b:Bs}
end
theorem VB {b:Bs}{z ez z2 e2 z3 e3 e4 e5 e6:Int}{r1 v r2 r3 a r4 n:Bs}(h1:z=aR (2:Nat) b 0∧r1=aG ((2:Nat):Int) b 0∧ez=aH ((2:Nat):Int) b 0)(h2:v=cm z r1 ez∧r2=aG z r1 ez∧e2=aH z r1 ez)(h3:z3=aR (2:Nat) r2 e2∧r3=aG ((2:Nat):Int) r2 e2∧e3=aH ((2:Nat):Int) r2 e2)(h4:a=cm z3 r3 e3∧r4=aG z3 r3 e3∧e4=aH z3 r3 e3)(h5:n=cm (bw r4 e4) r4 e4∧e5=aH (bw r4 e4) r4 e4):
  v=im b∧a=cI b∧n=eX b∧e5=K0 b:=by
 obtain ⟨rfl,rfl,rfl⟩:=h1
 obtain ⟨rfl,rfl,rfl⟩:=h2
 obtain ⟨rfl,rfl,rfl⟩:=h3
 obtain ⟨rfl,rfl,rfl⟩:=h4
 obtain ⟨rfl,rfl⟩:=h5
 exact ⟨rfl,rfl,rfl,rfl⟩
def FzLe (T:VT)(x y:TV)(T2:VT):Prop:=∀g w u,RW g T w→VR g w x u→∃g',Evo g w g' w∧RW g' T2 w∧VR g' w y u
def FzL (T:VT)(l m:List TV)(T2:VT):Prop:=∀g w us,RW g T w→VRs g w l us→∃g',Evo g w g' w∧RW g' T2 w∧VRs g' w m us
theorem FzLe.le {T:VT}{x y:TV}(h:TVle x y):FzLe T x y T:=λg w u r hv=>⟨g,Evo.refl g w,r,h g w u hv⟩
theorem FzLe.row {T:VT}{id size off n:Nat}{es:List (List TV)}(h:bK T size (.row size id off n)=some es):FzLe T (.row size id off n) (.vec size es .none) (T.kill id):=λg w u r hv=>oh r h hv
theorem FzL.nil {T:VT}:FzL T [] [] T:=λg w us r hv=>⟨g,Evo.refl g w,r,hv⟩
theorem FzL.cons {T T1 T2:VT}{x y:TV}{l m:List TV}(h1:FzLe T x y T1)(h2:FzL T1 l m T2):FzL T (x::l) (y::m) T2:=by
 intro g w us r hv
 match us,hv with
 |[],hv=>have:=hv.1;simp at this
 |u::us,hv=>
  have hu:VR g w x u:=hv.2 0 x u rfl rfl
  have hus:VRs g w l us:=⟨by have:=hv.1;simpa using this,λj a v ha hv2=>hv.2 (j+1) a v (by simpa using ha) (by simpa using hv2)⟩
  obtain ⟨g1,e1,r1,v1⟩:=h1 g w u r hu
  obtain ⟨g2,e2,r2,v2⟩:=h2 g1 w us r1 (hus.mono e1)
  exact ⟨g2,e1.trans e2,r2,VRs.cons (v1.mono e2) v2⟩
theorem FzL.le {T T2:VT}{x:TV}{l m:List TV}(h2:FzL T l m T2):FzL T (x::l) (x::m) T2:=FzL.cons (.le (.refl x)) h2
theorem FzLe.agg {T T2:VT}{l m:List TV}(h:FzL T l m T2):FzLe T (.agg l) (.agg m) T2:=λg w u r hv=>by
 cases hv with
 |agg hl hv=>
  obtain ⟨g',e',r',h1,h2⟩:=h g w _ r ⟨hl,hv⟩
  exact ⟨g',e',r',.agg h1 h2⟩
theorem FzLe.tup {T T2:VT}{l m:List TV}(h:FzL T l m T2):FzLe T (.tup l) (.tup m) T2:=λg w u r hu=>by
 obtain ⟨us,rfl,hv⟩:=hu.tup_inv
 obtain ⟨g',e',r',h1,h2⟩:=h g w _ r hv
 exact ⟨g',e',r',.tup h1 h2⟩
theorem VCx.toFz {P:Program}{G:aV}{f:FuncId}{xs:List TV}{T:VT}{y:TV}{Q:VT→Prop}(h:VCx P G 0 f xs T λx T'=>∃T2,FzLe T' x y T2∧T'.objs.length≤T2.objs.length∧Q T2):VCx P G 0 f xs T λx T'=>x=y∧Q T':=by
 intro g w us rw0 hG hx
 refine Calls.mono (h g w us rw0 hG hx) ?_
 rintro e w' ⟨v,x,g',T',he,⟨T2,hq,hl,hQ⟩,e',r',hv,hfx⟩
 obtain ⟨g2,e2,r2,v2⟩:=hq g' w' v r' hv
 exact ⟨v,_,g2,T2,he,⟨rfl,hQ⟩,e'.trans e2,r2,v2,⟨le_trans hfx.len hl,λi hi=>absurd hi (not_lt_zero i),λi o b hi=>absurd hi (not_lt_zero i)⟩⟩
theorem VCx.anyG {P:Program}{G:aV}{ro:Nat}{f:FuncId}{xs:List TV}{T:VT}{Q:TV→VT→Prop}(h:VCx P (λ_=>none) ro f xs T Q):VCx P G ro f xs T Q:=λg w us rw0 _ hx=>h g w us rw0 (λn cs hn=>by cases hn) hx
section
open Go.ChangeShapes Go.WideShapes Go.ChangeAt Go.RowKit Go.Joins Go.Deep
section
variable {H:Type}{enc:TypeId × Value→H}{P:Program}{w:World}{base:Nat}{spare:Nat→Bool}{held:Bool}
end
end
section
open Go.ChangeShapes Go.WideShapes Go.ChangeAt Go.RowKit Go.Joins
theorem OG:ownKnob prog.godebug=none:=by kernel_rfl
theorem Bp:laidOutB prog=true:=by kernel_rfl
end
section
open Go.ChangeShapes Go.WideShapes Go.ChangeAt Go.RowKit Go.Joins Go.Deep
def be:aV:=λn=>bif beq n 0 then some [.val (.int .i64 0),.val (.int .i64 29),.val (.int .i64 23),.val (.int .i64 21),.val (.int .i64 19)] else none
theorem bQ:dt be:=λn cs h=>by
 unfold be at h
 cases hb:beq n 0 with
 |false=>rw [hb] at h;cases h
 |true=>
  rw [hb] at h
  injection h with h;subst h
  exact ⟨[.int .i64 0,.int .i64 29,.int .i64 23,.int .i64 21,.int .i64 19],rfl⟩
def pv:List Int:= [0,29,23,21,19]
theorem yU:prog.globalNamed "fairway/message.least" =some 0:=by kernel_rfl
theorem K5 {w:World}(h:Lib.TabIs prog w "fairway/message.least" .i64 pv):GOk be (mu w) w:=by
 intro n cs hn
 unfold be at hn
 cases hb:beq n 0 with
 |false=>rw [hb] at hn;cases hn
 |true=>
  rw [hb] at hn
  have:=Nat.eq_of_beq_eq_true hb
  subst this
  injection hn with hn;subst hn
  have cell:∀(j:Nat) u,(pv.map λz=>Value.int .i64 z)[j]?=some u→w.cell? ⟨0,0+j,none⟩=some u:=λj u hj=>by
   have hlt:j<pv.length:=by
    have:=(List.getElem?_eq_some_iff.1 hj).1
    simpa using this
   have h1:=h.cell yU j hlt
   rw [zero_add,h1,←hj,getElem?_map,List.getD_eq_getElem?_getD,getElem?_eq_getElem hlt]
   rfl
  refine VR.mk_elt (us:=pv.map λz=>Value.int .i64 z) (VRs.vals (mu w) w [.int .i64 0,.int .i64 29,.int .i64 23,.int .i64 21,.int .i64 19]) (λj hj=> ?_) cell (λu hu=> ?_)
  ·show (w.cell? ⟨_,0+j,none⟩).isSome=true
   have hj':j<(pv.map λz=>Value.int .i64 z).length:=hj
   rw [cell j _ (getElem?_eq_getElem hj')];rfl
  ·obtain ⟨z,_,rfl⟩:=List.mem_map.1 hu
   rfl
end
def ia (b:Bs):Bool:=(b.take 16).all λr=>decide (fZ r=255)
def io (b:Bs):Int:=de 2 (b.drop 16)
def nX (b:Bs):Int:=fZ ((b.drop 18).headD [])
def nt (b:Bs):Bs:=(b.drop 16).take 2
def Ef (b:Bs):Bs:=(b.drop 18).take 1
def sK (k:Int):Int:=if k=1 then 29 else if k=2 then 23 else if k=3 then 21 else 19
def lS (b:Bs):(Int × Bs) ⊕ (Int × Int):=
 if b.length<19 then .inr (0,0) else bif ia b then
  (if io b<19∨io b>4096 then .inl (2,nt b) else if nX b<1∨nX b>4 then .inl (3,Ef b)
  else if io b<sK (nX b)∨(nX b=4∧¬io b=19) then .inl (2,nt b) else .inr (io b,nX b))
 else .inl (1,[])
def dg (b:Bs):Bool:=match lS b with
 | .inr _=>true
 | .inl _=>false
def bI (b:Bs):Int:=match lS b with
 | .inr p=>p.1
 | .inl _=>0
def ew (b:Bs):Int:=match lS b with
 | .inr p=>p.2
 | .inl _=>0
def nu (b:Bs):Int:=match lS b with
 | .inr _=>0
 | .inl p=>p.1
def lT (b:Bs):Bs:=match lS b with
 | .inr _=> []
 | .inl p=>p.2
def K6 (p:(Int × Bs) ⊕ (Int × Int)):TV:=match p with
 | .inl (s,d)=>.tup [.val (.int .i64 0),.val (.int .i64 0),cK 1 s d]
 | .inr (n,k)=>.tup [.val (.int .i64 n),.val (.int .i64 k),cK 0 0 []]
def uB (b:Bs):TV:=K6 (lS b)
theorem yV {b:Bs}(hb:IsB b):IsB (lT b):=by
 have h1:IsB (nt b):=(hb.drop 16).take 2
 have h2:IsB (Ef b):=(hb.drop 18).take 1
 unfold lT lS
 split
 ·exact .nil
 ·rename_i p hp
  split at hp
  ·cases hp
  cases h:ia b<;>rw [h] at hp<;>simp only [cond_true,cond_false] at hp
  ·injection hp with hp;rw [←hp];exact .nil
  split at hp
  ·injection hp with hp;rw [←hp];exact h1
  split at hp
  ·injection hp with hp;rw [←hp];exact h2
  split at hp
  ·injection hp with hp;rw [←hp];exact h1
  ·cases hp
theorem K7 {b:Bs}(h:dg b=true):uB b=.tup [.val (.int .i64 (bI b)),.val (.int .i64 (ew b)),cK 0 0 []]:=by
 unfold uB K6 bI ew
 unfold dg at h
 cases e:lS b with
 |inl x=>rw [e] at h;cases h
 |inr p=>rfl
theorem K8 {b:Bs}(h:dg b=false):uB b=.tup [.val (.int .i64 0),.val (.int .i64 0),cK 1 (nu b) (lT b)]:=by
 unfold uB K6 nu lT
 unfold dg at h
 cases e:lS b with
 |inl x=>rfl
 |inr p=>rw [e] at h;cases h
theorem GE {b:Bs}(hb:IsB b)(f g:Nat→Option Nat):(uB b).ren f g=uB b:=by
 cases h:dg b
 ·rw [K8 h];simp only [TV.ren,ap,cK,(yV hb).ren,Tok.ren]
 ·rw [K7 h];simp only [TV.ren,ap,cK,bk,Tok.ren]
structure OpS where
 n:Int
 h:Int
 i:Int
 l:Bs
def GF:OpS:=⟨0,0,0,[]⟩
def OpS.cells (o:OpS):List TV:= [.val (.int .i64 o.n),.val (.int .i64 o.h),.val (.int .u32 o.i),.vec 2 o.l .none]
def opQ (x:TV):(Int × Bs) ⊕ OpS:=match x with
 | .tup [.agg [.val (.int _ n),.val (.int _ h),.val (.int _ i),.vec _ l _],.agg [.val (.int _ c),.val (.int _ s),.vec _ d _]]=>if c=0 then .inr ⟨n,h,i,l⟩ else .inl (s,d)
 |_=>.inl (0,[])
def qo (b:Bs)(pas:Int):(Int × Bs) ⊕ OpS:=opQ (jC b pas)
def VC (p:(Int × Bs) ⊕ OpS):TV:=match p with
 | .inl (s,d)=>.tup [.agg GF.cells,cK 2 s d]
 | .inr o=>.tup [.agg o.cells,cK 0 0 []]
theorem xx (b:Bs)(pas:Int)(hb:IsB b):(∃s d,jC b pas=dQ s d∧∀f g,bk f g d=d)∨(∃n h i l,jC b pas=pp n h i l∧∀f g,bk f g l=l):=by
 unfold jC
 split
 ·exact .inl ⟨_,_,rfl,λ_ _=>rfl⟩
 split
 ·exact .inl ⟨_,_,rfl,λ_ _=>rfl⟩
 unfold vL fU
 split
 ·exact .inl ⟨_,_,rfl,λ_ _=>rfl⟩
 split
 ·exact .inl ⟨_,_,rfl,λ_ _=>rfl⟩
 split
 ·exact .inl ⟨_,_,rfl,λ_ _=>rfl⟩
 split
 ·exact .inl ⟨_,_,rfl,λ_ _=>rfl⟩
 split
 ·exact .inl ⟨_,_,rfl,λ_ _=>rfl⟩
 cases h:gq _ _
 ·exact .inl ⟨_,_,rfl,λ_ _=>rfl⟩
 ·exact .inr ⟨_,_,_,_,rfl,λf g=>Aj (aK (aK (aK (aK (aK hb))))) _ f g⟩
theorem K9 (b:Bs)(pas:Int)(hb:IsB b):jC b pas=VC (qo b pas):=by
 unfold qo
 rcases xx b pas hb with ⟨s,d,h,_⟩ | ⟨n,hh,i,l,h,_⟩<;>rw [h]<;>rfl
def ib (b:Bs)(pas:Int):Bool:=match qo b pas with
 | .inr _=>true
 | .inl _=>false
def qp (b:Bs)(pas:Int):OpS:=match qo b pas with
 | .inr o=>o
 | .inl _=>GF
def OH (b:Bs)(pas:Int):Int:=(qp b pas).n
def OI (b:Bs)(pas:Int):Int:=(qp b pas).h
def OJ (b:Bs)(pas:Int):Int:=(qp b pas).i
def uC (b:Bs)(pas:Int):Bs:=(qp b pas).l
def sL (b:Bs)(pas:Int):Int:=match qo b pas with
 | .inr _=>0
 | .inl p=>p.1
def lU (b:Bs)(pas:Int):Bs:=match qo b pas with
 | .inr _=> []
 | .inl p=>p.2
theorem La {b:Bs}{pas:Int}(hb:IsB b)(h:ib b pas=true):jC b pas=.tup [.agg (qp b pas).cells,cK 0 0 []]:=by
 rw [K9 b pas hb]
 unfold VC qp
 unfold ib at h
 cases e:qo b pas with
 |inl x=>rw [e] at h;cases h
 |inr p=>rfl
theorem Lb {b:Bs}{pas:Int}(hb:IsB b)(h:ib b pas=false):jC b pas=.tup [.agg GF.cells,cK 2 (sL b pas) (lU b pas)]:=by
 rw [K9 b pas hb]
 unfold VC sL lU
 unfold ib at h
 cases e:qo b pas with
 |inl x=>rfl
 |inr p=>rw [e] at h;cases h
theorem Eg {b:Bs}(pas:Int)(hb:IsB b)(f g:Nat→Option Nat):bk f g (lU b pas)=lU b pas:=by
 unfold lU qo
 rcases xx b pas hb with ⟨s,d,h,h2⟩ | ⟨n,hh,i,l,h,h2⟩<;>rw [h]
 ·exact h2 f g
 ·rfl
theorem Eh {b:Bs}(pas:Int)(hb:IsB b)(f g:Nat→Option Nat):bk f g (uC b pas)=uC b pas:=by
 unfold uC qp qo
 rcases xx b pas hb with ⟨s,d,h,h2⟩ | ⟨n,hh,i,l,h,h2⟩<;>rw [h]
 ·rfl
 ·exact h2 f g
theorem GG {b:Bs}(pas:Int)(hb:IsB b)(f g:Nat→Option Nat):(jC b pas).ren f g=jC b pas:=by
 cases h:ib b pas
 ·rw [Lb hb h];simp only [TV.ren,ap,cK,GF,OpS.cells,bk,Eg pas hb,Tok.ren]
 ·rw [La hb h]
  have:=Eh pas hb f g
  unfold uC at this
  simp only [TV.ren,ap,cK,OpS.cells,bk,this,Tok.ren]
def iC (b:Bs):Bool:=match iL b with
 | .inr _=>true
 | .inl _=>false
def lV (b:Bs):UpS:=match iL b with
 | .inr u=>u
 | .inl _=>nW
def sM (b:Bs):Int:=match iL b with
 | .inr _=>0
 | .inl p=>p.1
def lW (b:Bs):Bs:=match iL b with
 | .inr _=> []
 | .inl p=>p.2
def IL (b:Bs):Bs:=(lV b).w
def IM (b:Bs):Int:=(lV b).o
def IN (b:Bs):Bs:=(lV b).x
def IP (b:Bs):Int:=(lV b).h
def IQ (b:Bs):Int:=(lV b).m
def IR (b:Bs):Bool:=(lV b).hm
def IS (b:Bs):Bs:=(lV b).n
theorem VD {b:Bs}(h:iC b=true):qn b=.tup [.agg (lV b).cells,cK 0 0 []]:=by
 unfold qn Ee lV
 unfold iC at h
 cases e:iL b with
 |inl x=>rw [e] at h;cases h
 |inr p=>rfl
theorem VE {b:Bs}(h:iC b=false):qn b=.tup [.agg nW.cells,cK 3 (sM b) (lW b)]:=by
 unfold qn Ee sM lW
 unfold iC at h
 cases e:iL b with
 |inl x=>rfl
 |inr p=>rw [e] at h;cases h
theorem OK {b:Bs}(hb:IsB b)(f g:Nat→Option Nat):bk f g (lW b)=lW b:=by
 unfold lW
 cases e:iL b with
 |inl x=>exact K4 hb e f g
 |inr p=>rfl
theorem SD {b:Bs}(hb:IsB b)(f g:Nat→Option Nat):ap f g (lV b).cells=(lV b).cells:=by
 unfold lV
 cases e:iL b with
 |inl x=>rfl
 |inr p=>
  have:=K3 hb e f g
  simp only [UpS.tv,TV.ren] at this
  injection this
def yW (b:Bs):Int:=fZ (b[0]?.getD [])
def yX (b:Bs):Int:=fZ (b[1]?.getD [])
def yY (b:Bs):Bs:=b.drop 2
theorem yZ (b:Bs):Gj b=bif jB b then .tup [cK (yW b) (yX b) (yY b),.val (.bool true)] else .tup [cK 0 0 [],.val (.bool false)]:=rfl
theorem GH {b:Bs}(hb:IsB b)(f g:Nat→Option Nat):(Gj b).ren f g=Gj b:=by
 have:=(hb.drop 2).ren f g
 unfold Gj
 cases jB b
 ·rfl
 ·simp only [cond_true,TV.ren,ap,this,Tok.ren]
structure MsgS where
 k:Int
 op:OpS
 u:UpS
 c:Int
 s:Int
 d:Bs
def MsgS.cells (m:MsgS):List TV:=(.val (.int .i64 m.k))::(m.op.cells++(m.u.cells++ [.val (.int .i64 m.c),.val (.int .i64 m.s),.vec 1 m.d .none]))
def m0:MsgS:=⟨0,GF,nW,0,0,[]⟩
def fh (b:Bs)(pas:Int):(Int × Int × Bs) ⊕ MsgS:=
 bif dg b then
  (if b.length<19 then .inl (1,2,[]) else if ¬bI b=b.length then .inl (1,2,nt b) else
  if ew b=1 then (bif ib (b.drop 19) pas then .inr {m0 with k:=ew b,op:=qp (b.drop 19) pas} else .inl (2,sL (b.drop 19) pas,lU (b.drop 19) pas))
  else if ew b=2 then (bif iC (b.drop 19) then .inr {m0 with k:=ew b,u:=lV (b.drop 19)} else .inl (3,sM (b.drop 19),lW (b.drop 19)))
  else if ew b=3 then (bif jB (b.drop 19) then .inr {m0 with k:=ew b,c:=yW (b.drop 19),s:=yX (b.drop 19),d:=yY (b.drop 19)} else .inl (1,2,nt b))
  else .inr {m0 with k:=ew b})
 else .inl (1,nu b,lT b)
def PZ (p:(Int × Int × Bs) ⊕ MsgS):TV:=match p with
 | .inl (c,s,d)=>.tup [.agg m0.cells,cK c s d]
 | .inr m=>.tup [.agg m.cells,cK 0 0 []]
def y7 (b:Bs)(pas:Int):TV:=PZ (fh b pas)
def OL (m:MsgS):Prop:=∀f g,ap f g m.cells=m.cells
theorem mG (f g:Nat→Option Nat)(l m:List TV):ap f g (l++m)=ap f g l++ap f g m:=by simp only [gw,map_append]
theorem rA {m:MsgS}(h1:∀f g,ap f g m.op.cells=m.op.cells)(h2:∀f g,ap f g m.u.cells=m.u.cells)(h3:∀f g,bk f g m.d=m.d):OL m:=λf g=>by
 simp only [MsgS.cells,ap,mG,h1,h2,TV.ren,h3,Tok.ren]
theorem VF {b:Bs}{pas:Int}(hb:IsB b){m:MsgS}(h:fh b pas=.inr m):OL m:=by
 have hd:=hb.drop 19
 unfold fh at h
 cases h1:dg b<;>rw [h1] at h<;>simp only [cond_true,cond_false] at h
 ·cases h
 split at h
 ·cases h
 split at h
 ·cases h
 split at h
 ·cases h2:ib (b.drop 19) pas<;>rw [h2] at h<;>simp only [cond_true,cond_false] at h
  ·cases h
  ·injection h with h;subst h
   refine rA (λf g=> ?_) (λ_ _=>rfl) (λ_ _=>rfl)
   have:=Eh pas hd f g
   unfold uC at this
   simp only [OpS.cells,ap,TV.ren,this,Tok.ren]
 split at h
 ·cases h2:iC (b.drop 19)<;>rw [h2] at h<;>simp only [cond_true,cond_false] at h
  ·cases h
  ·injection h with h;subst h
   exact rA (λ_ _=>rfl) (λf g=>SD hd f g) (λ_ _=>rfl)
 split at h
 ·cases h2:jB (b.drop 19)<;>rw [h2] at h<;>simp only [cond_true,cond_false] at h
  ·cases h
  ·injection h with h;subst h
   exact rA (λ_ _=>rfl) (λ_ _=>rfl) (λf g=>(hd.drop 2).ren f g)
 ·injection h with h;subst h
  exact rA (λ_ _=>rfl) (λ_ _=>rfl) (λ_ _=>rfl)
theorem VG {b:Bs}{pas:Int}(hb:IsB b){c s:Int}{d:Bs}(h:fh b pas=.inl (c,s,d))(f g:Nat→Option Nat):bk f g d=d:=by
 have hd:=hb.drop 19
 have hz:IsB (nt b):=(hb.drop 16).take 2
 unfold fh at h
 cases h1:dg b<;>rw [h1] at h<;>simp only [cond_true,cond_false] at h
 ·injection h with h;injection h with _ h;injection h with _ h;rw [←h];exact (yV hb).ren f g
 split at h
 ·injection h with h;injection h with _ h;injection h with _ h;rw [←h];rfl
 split at h
 ·injection h with h;injection h with _ h;injection h with _ h;rw [←h];exact hz.ren f g
 split at h
 ·cases h2:ib (b.drop 19) pas<;>rw [h2] at h<;>simp only [cond_true,cond_false] at h
  ·injection h with h;injection h with _ h;injection h with _ h;rw [←h];exact Eg pas hd f g
  ·cases h
 split at h
 ·cases h2:iC (b.drop 19)<;>rw [h2] at h<;>simp only [cond_true,cond_false] at h
  ·injection h with h;injection h with _ h;injection h with _ h;rw [←h];exact OK hd f g
  ·cases h
 split at h
 ·cases h2:jB (b.drop 19)<;>rw [h2] at h<;>simp only [cond_true,cond_false] at h
  ·injection h with h;injection h with _ h;injection h with _ h;rw [←h];exact hz.ren f g
  ·cases h
 ·cases h
theorem GI {b:Bs}(pas:Int)(hb:IsB b)(f g:Nat→Option Nat):(y7 b pas).ren f g=y7 b pas:=by
 unfold y7 PZ
 split
 ·rename_i c s d h
  have:=VG hb h f g
  have h0:ap f g m0.cells=m0.cells:=rfl
  simp only [TV.ren,ap,cK,this,h0,Tok.ren]
 ·rename_i m h
  have:=VF hb h f g
  simp only [TV.ren,ap,cK,this,bk,Tok.ren]
abbrev Bq:=26
abbrev GJ:=28
def jf (z0 z1 z2 z3 z4 z5 z6 z7 z8 z9 z10 z11 z12 z13 z14 z15 z16 z17 z18:Int)(w:Bs):Bs:=bT z0::bT z1::bT z2::bT z3::bT z4::bT z5::bT z6::bT z7::bT z8::bT z9::bT z10::bT z11::bT z12::bT z13::bT z14::bT z15::bT z16::bT z17::bT z18::w
theorem kx {n:Nat}{l:List Int}(h:n+1≤l.length):∃z l',l=z::l'∧n≤l'.length:=by
 cases l with
 |nil=>simp at h
 |cons z l=>exact ⟨z,l,rfl,by simpa using h⟩
def inZ (z:Int):Prop:=0≤z∧z<256
theorem inZ.wrap {z:Int}(h:inZ z):IntKind.wrap i64 z=z:=b6 (by have:=h.1;omega) (by have:=h.2;omega)
theorem Br:∀l:List Int,dY (l.map (Value.int .u8)) (l.map λ_=>Value.int .u8 255)=(bV l).all λr=>decide (fZ r=255)
 |[]=>rfl
 |z::l=>by
  have h:=Br l
  have e:cg (Value.int .u8 z) (Value.int .u8 255)=decide (z=255):=by simp [cg,Bool.beq_eq_decide_eq]
  simp only [map_cons,dY,bV,List.all_cons,e] at h ⊢
  rw [show fZ (bT z)=z from rfl]
  rw [h]
  cases decide (z=255)<;>rfl
theorem SE {b:Bs}(hb:IsB b):0≤de 2 b∧de 2 b<65536:=by
 obtain ⟨⟨l,hl,hz⟩,_⟩:=hb.take 2
 have hlen:l.length≤2:=by
  have:=congrArg length hl
  simp only [bV,length_map,length_take] at this
  omega
 have h:=tZ hz
 unfold de
 rw [show (2:Int).toNat=2 from rfl,hl]
 refine ⟨h.1,Int.lt_of_lt_of_le h.2 ?_⟩
 have:l.length=0∨l.length=1∨l.length=2:=by omega
 rcases this with h | h | h<;>rw [h]<;>decide
def Lc (k:Int):List TV:=([.val (.int .i64 0),.val (.int .i64 29),.val (.int .i64 23),.val (.int .i64 21),.val (.int .i64 19)]:List TV).drop (k.toNat+1)
theorem IT {k:Int}(h1:1≤k)(h4:k≤4):bc prog be (.indexAddr 112 (.global 0) (.tmp 70)) [(70,(.val (.int .i64 k)))] (.elt ([.val (.int .i64 (sK k))]++Lc k)):=by
 have h:k=1∨k=2∨k=3∨k=4:=by omega
 rcases h with rfl | rfl | rfl | rfl<;>exact ⟨by kernel_rfl⟩
section
variable {b:Bs}
theorem sN (h:¬b.length<19):lS b=bif ia b then
  (if io b<19∨io b>4096 then .inl (2,nt b) else if nX b<1∨nX b>4 then .inl (3,Ef b)
  else if io b<sK (nX b)∨(nX b=4∧¬io b=19) then .inl (2,nt b) else .inr (io b,nX b))
 else .inl (1,[]):=by unfold lS;rw [if_neg h]
end
section
variable {b:Bs}{pas:Int}
def pw:TV:=.val (.slice none 0 0)
theorem Zo:TVle (.agg [.val (.int .i64 0),.val (.int .i64 0),.val (.int .i64 0),.val (.int .u32 0),pw,pw,.val (.int .i64 0),pw,.val (.int .u32 0),.val (.int .i64 0),.val (.bool false),pw,.val (.int .i64 0),.val (.int .i64 0),pw]) (.agg m0.cells):=
 .agg ⟨.refl _,.refl _,.refl _,.refl _,.nil 2,.nil 2,.refl _,.nil 1,.refl _,.refl _,.refl _,.nil 2,.refl _,.refl _,.nil 1,trivial⟩
theorem SF (h:dg b=false):fh b pas=.inl (1,nu b,lT b):=by unfold fh;rw [h];rfl
theorem OM (h:dg b=true)(hl:¬b.length<19):fh b pas=if ¬bI b=b.length then .inl (1,2,nt b) else
 if ew b=1 then (bif ib (b.drop 19) pas then .inr {m0 with k:=ew b,op:=qp (b.drop 19) pas} else .inl (2,sL (b.drop 19) pas,lU (b.drop 19) pas))
 else if ew b=2 then (bif iC (b.drop 19) then .inr {m0 with k:=ew b,u:=lV (b.drop 19)} else .inl (3,sM (b.drop 19),lW (b.drop 19)))
 else if ew b=3 then (bif jB (b.drop 19) then .inr {m0 with k:=ew b,c:=yW (b.drop 19),s:=yX (b.drop 19),d:=yY (b.drop 19)} else .inl (1,2,nt b))
 else .inr {m0 with k:=ew b}:=by unfold fh;rw [h,cond_true,if_neg hl]
end
section
variable {P:Program}{G:aV}
theorem gO {j len:Nat}(h:j<len)(hlen:len≤64000000):wrap i64 (((j:Nat):Int)+(1:Int))=((j+1:Nat):Int):=by
 simp only [wrap,IntKind.bits,signed];simp;omega
theorem rB {f:FuncId}{id:Nat}(hc:kp id (aD P f id)=true)(n:Nat)(keys:List Nat)(sl:Int→List TV)(T:VT)(len:Nat)(Post:Exit→List TV→VT→Prop)
  (hbody:∀j:Nat,j≤len→VWx P G none 0 (cq P f id) (aQ n keys (sl j)) T [] (cN keys λe vs T' D m=>D= []∧m=n∧match e with
   | .normal=>j<len∧((T'=T∧vs=sl (j+1:Nat))∨(T'.keep T.objs.length T.tails.length=T∧ap (aA T.objs.length) (aA T.tails.length) vs=sl (j+1:Nat)))
   | .exit i=>cond (beq i id) (Post .normal vs T') (Post (.exit i) vs T')
   |e=>Post e vs T')):
  ∀K:KX,(∀e vs T',Post e vs T'→K e (aQ n keys vs) T' [])→VWx P G none 0 (aD P f id) (aQ n keys (sl (0:Nat))) T [] K:=by
 intro K hK
 refine dO (f:=f) (id:=id) hc n keys (λj:Nat=>len-j) (λj:Nat=>sl j) (λ_=>T) (λj=>j≤len) T.objs.length T.tails.length (λ_ _=>⟨le_refl _,le_refl _⟩) Post (λj hj=> ?_) 0 (zero_le _) K hK
 refine (hbody j hj).mono λe σ T' D hq=> ?_
 obtain ⟨h1,h2,h3⟩:=hq
 refine ⟨h1,h2,?_⟩
 cases e
 case normal=>
  obtain ⟨hlt,h4⟩:=h3
  refine ⟨j+1,hlt,by show len-(j+1)<len-j;omega,?_⟩
  exact h4
 case exit i=>exact h3
 all_goals exact h3
end
theorem ou:∀l:List Int,ml (bV l)=some l
 |[]=>rfl
 |z::l=>by
  have h:=ou l
  simp only [bV,map_cons] at h ⊢
  simp only [bT,ml,h]
  rfl
def mH (d:Bs):ByteArray:=xT ((ml d).getD [])
theorem aa5 (s:ByteArray):ax eql (aX (.string s) (.string s))=true:=by
 have h:=(CA (c:=.str) (x:=.string s) (y:=.string s) rfl rfl).2 rfl
 simp [ax,aX,h]
theorem aa6 (s:ByteArray):ax neq (aX (.string s) (.string s))=false:=by
 have h:=(CA (c:=.str) (x:=.string s) (y:=.string s) rfl rfl).2 rfl
 simp [ax,aX,h]
theorem IU (k:IntKind)(z:Int):cg (.int k z) (.int k z)=true:=by simp [cg]
theorem iM (k:IntKind)(z:Int):ax neq (aX (.int k z) (.int k z))=false:=by simp [ax,aX,cg]
theorem uD (k:IntKind)(z:Int):ax eql (aX (.int k z) (.int k z))=true:=by simp [ax,aX,cg]
theorem SG (b:Bool):ax neq (aX (.bool b) (.bool b))=false:=by simp [ax,aX,cg]
theorem y8:∀l:List Value,(∀v∈l,cg v v=true)→dY l l=true
 |[],_=>rfl
 |v::l,h=>by
  unfold dY
  rw [h v mem_cons_self,cond_true]
  exact y8 l λw hw=>h w (List.mem_cons_of_mem _ hw)
theorem Zp (l:List Value)(h:∀v∈l,cg v v=true):ax neq (aX (.agg l.toArray) (.agg l.toArray))=false:=by
 have e:aX (.agg l.toArray) (.agg l.toArray)=dY l l:=by simp [aX]
 rw [e,y8 l h];rfl
--bumped 32
def eY (z:Int):TV:=.val (.int .u8 z)
def aC (cs:List TV)(off n:Nat):Bs:=dG 1 n ((cs.drop off).take n)
def RwOk (cs:List TV)(off n:Nat):Prop:=off+n≤cs.length∧cs.length≤32000000∧∃l:List Int,cs=l.map eY∧∀z∈l,0≤z∧z<256
theorem Bt:∀l:List Int,dG 1 l.length (l.map eY)=bV l
 |[]=>rfl
 |z::l=>by
  have h:=Bt l
  simp only [length_cons,map_cons,dG,take_succ_cons,take_zero,List.drop_succ_cons,List.drop_zero,h]
  rfl
theorem ov {l:List Int}{off n:Nat}(h:off+n≤l.length):aC (l.map eY) off n=bV ((l.drop off).take n):=by
 have e:((l.map eY).drop off).take n=((l.drop off).take n).map eY:=by rw [←List.map_drop,←List.map_take]
 have hl:((l.drop off).take n).length=n:=by rw [length_take,List.length_drop];omega
 have h2:=Bt ((l.drop off).take n)
 rw [hl] at h2
 unfold aC
 rw [e,h2]
theorem iN (cs:List TV)(off n:Nat):(aC cs off n).length=n:=n9 1 n _
section
variable {cs:List TV}{off n:Nat}
theorem RwOk.is (h:RwOk cs off n):IsB (aC cs off n):=by
 obtain ⟨h1,h2,l,rfl,hl⟩:=h
 rw [length_map] at h1 h2
 refine ⟨⟨(l.drop off).take n,ov h1,λz hz=>hl z (List.mem_of_mem_drop (List.mem_of_mem_take hz))⟩,?_⟩
 rw [iN];omega
theorem RwOk.sub (h:RwOk cs off n){o m:Nat}(h2:o+m≤cs.length):RwOk cs o m:=⟨h2,h.2.1,h.2.2⟩
theorem Ld (f g:Nat→Option Nat):∀l:List Int,ap f g (l.map eY)=l.map eY
 |[]=>rfl
 |z::l=>by simp only [map_cons,ap,Ld f g l];rfl
theorem RwOk.ren (h:RwOk cs off n)(f g:Nat→Option Nat):(VO.row cs).ren f g=.row cs:=by
 obtain ⟨_,_,l,rfl,_⟩:=h
 simp only [VO.ren,Ld]
theorem SI (h:RwOk cs off n){m:Nat}(hm:m≤n):(aC cs off n).drop m=aC cs (off+m) (n-m):=by
 obtain ⟨h1,h2,l,rfl,hl⟩:=h
 rw [length_map] at h1
 rw [ov h1,ov (by omega),bV,bV,←List.map_drop,List.drop_take,List.drop_drop]
theorem SJ (h:RwOk cs off n){m:Nat}(hm:m≤n):(aC cs off n).take m=aC cs off m:=by
 obtain ⟨h1,h2,l,rfl,hl⟩:=h
 rw [length_map] at h1
 rw [ov h1,ov (by omega),bV,bV,←List.map_take,List.take_take,Nat.min_eq_left hm]
end
section
variable {P:Program}{G:aV}
theorem VCx.fzRow {f:FuncId}{xs:List TV}{cs:List TV}{y:TV}(hc:∀f g,(VO.row cs).ren f g=.row cs)(hy:∀f g,y.ren f g=y)(h:VCx P G 0 f xs ⟨[.row cs],[]⟩ λx T'=>∃T2,FzLe T' x y T2∧T'.objs.length≤T2.objs.length∧T2.objs[0]?=some (.row cs)):
  VCx P G 0 f xs ⟨[.row cs],[]⟩ λx T'=>x=y∧T'=⟨[.row cs],[]⟩:=by
 refine VCx.keepQ 1 0 (le_refl _) (le_refl _) ((VCx.toFz (y:=y) (Q:=λT2=>T2.objs[0]?=some (.row cs)) h).mono ?_)
 rintro x T' ⟨rfl,h0⟩
 refine ⟨hy _ _,?_⟩
 obtain ⟨objs,tails⟩:=T'
 cases objs with
 |nil=>simp at h0
 |cons o l=>
  simp at h0;subst h0
  simp only [VT.keep,take_succ_cons,take_zero,map_cons,map_nil,hc]
theorem VCx.atRow {f:FuncId}{ro k:Nat}{cs:List TV}{ys0 ys1:List TV}{y:TV}{T:VT}{K:TV→VT→Prop}(hG:dt G)(hro:ro≤k)(ho:T.objs[k]?=some (.row cs))(hc:∀f g,(VO.row cs).ren f g=.row cs)(hy:∀f g,y.ren f g=y)(hx:ap (aU [k]) (aU []) ys0=ys1)
  (hv:VCx P G 0 f ys1 ⟨[.row cs],[]⟩ λx T'=>x=y∧T'=⟨[.row cs],[]⟩) (hk:K y T):VCx P G ro f ys0 T K:=by
 refine VCx.at1 (Q:=λx o' l'=>x=y∧o'=.row cs∧l'= []) hG hro ho rfl (hc _ _) hx (hv.mono λx T' ⟨h1,h2⟩=>⟨_,_,h2,h1,rfl,rfl⟩) ?_
 rintro x o' l' ⟨rfl,rfl,rfl⟩
 rw [hy,hc,pc ho]
 simpa using hk
theorem IV {ro:Nat}{T:VT}{t e tx:TypeId}{s x:Operand}{l:List (Nat × TV)}{inf:TypeInfo}{z:Value}{q0:List TV}{qs:List (List TV)}{id off n:Nat}(ht:P.underlying t=some (.slice e))(hi:P.info? e=some inf)(hz:inf.zero=some z)(hzs:z.cells.size=inf.size)(hz1:z.cells.toList.all oneCell'=true)
  (hsl:fY (P.underlying tx)=true) (hs:aP G l s=.vec inf.size [] .full) (hx:aP G l x=.row inf.size id off n) (hr:bK T inf.size (.row inf.size id off n)=some (q0::qs)) (hb:(q0::qs).length*(inf.bytes+1)≤140737488355328):
  bb P G ro T (.call ⟨.builtin .append,#[s,x],#[t,tx]⟩) l (.row inf.size T.objs.length 0 (q0::qs).length) (T.newRow (q0::qs).flatten):=by
 refine .mk ?_
 have h1:bu P (.call ⟨.builtin .append,#[s,x],#[t,tx]⟩) (aP G l)=none:=by simp [bu,dZ]
 have h2:br P T (.call ⟨.builtin .append,#[s,x],#[t,tx]⟩) (aP G l)=none:=by simp [br,dJ,jl]
 have h4:lv P T t tx (.vec inf.size [] .full) (.row inf.size id off n)=none:=by simp [lv,ht]
 have h3:lu P ro T t tx (.vec inf.size [] .full) (.row inf.size id off n)=some (.row inf.size T.objs.length 0 (q0::qs).length,T.newRow (q0::qs).flatten):=by
  unfold lu
  simp only [ht,hi,hz,hr,hzs,decide_true,hz1,hsl,Bool.and_self,cond_true,beq_refl,length_nil,zero_add,List.flatten_nil,List.nil_append,Nat.ble_eq_true_of_le hb]
 have h5:sa P ro T t tx (.vec inf.size [] .full) (.row inf.size id off n)=none:=rfl
 simp only [gB,h1,h2,lw,hs,hx,hsl,h4,h5,h3,cond_true]
theorem IW {ro:Nat}{T:VT}{t e tx:TypeId}{s x:Operand}{l:List (Nat × TV)}{inf:TypeInfo}{z:Value}{id off n:Nat}(ht:P.underlying t=some (.slice e))(hi:P.info? e=some inf)(hz:inf.zero=some z)(hzs:z.cells.size=inf.size)(hz1:z.cells.toList.all oneCell'=true)
  (hsl:fY (P.underlying tx)=true) (hs:aP G l s=.vec inf.size [] .full) (hx:aP G l x=.row inf.size id off n) (hr:bK T inf.size (.row inf.size id off n)=some []):
  bb P G ro T (.call ⟨.builtin .append,#[s,x],#[t,tx]⟩) l (.vec inf.size [] .full) T:=by
 refine .mk ?_
 have h1:bu P (.call ⟨.builtin .append,#[s,x],#[t,tx]⟩) (aP G l)=none:=by simp [bu,dZ]
 have h2:br P T (.call ⟨.builtin .append,#[s,x],#[t,tx]⟩) (aP G l)=none:=by simp [br,dJ,jl]
 have h4:lv P T t tx (.vec inf.size [] .full) (.row inf.size id off n)=none:=by simp [lv,ht]
 have h3:lu P ro T t tx (.vec inf.size [] .full) (.row inf.size id off n)=some (.vec inf.size [] .full,T):=by
  unfold lu
  simp only [ht,hi,hz,hr,hzs,decide_true,hz1,hsl,Bool.and_self,cond_true,beq_refl]
 have h5:sa P ro T t tx (.vec inf.size [] .full) (.row inf.size id off n)=none:=rfl
 simp only [gB,h1,h2,lw,hs,hx,hsl,h4,h5,h3,cond_true]
theorem GK (T:VT)(i:Nat):T.objs.length≤(T.kill i).objs.length:=by simp [VT.kill]
end
--bumped 32
def GL:aW:=λro ys T K=>match ys with
 |[.row 1 k off n]=>match T.objs[k]? with
  |some (.row cs)=>(ble ro k=true∧RwOk cs off n)∧K (.ptr T.objs.length 0) {T with objs:=T.objs++ [aM (aC cs off n) 0 0]}
  |_=>aJ 80 default ys
 |_=>aJ 82 default ys
def P0:aW:=λro ys T K=>match ys with
 |[.row 1 k off n]=>match T.objs[k]? with
  |some (.row cs)=>(ble ro k=true∧RwOk cs off n)∧K (.vec 1 (aC cs off n) .none) T
  |_=>aJ 80 default ys
 |_=>aJ 82 default ys
abbrev qr (v:Bs)(v_19:Bs)(v_24:Bs):VO:=(Id (bg v) (nJ v_19) (i9 v_19) (nK v_19) (nL v_19) (nM v_19) (bg v_24))
abbrev qt (v_19:Bs):VO:=(pf (nJ v_19) (i9 v_19) (nK v_19) (nL v_19) (nM v_19))
abbrev kD (v_19:Bs):VO:=(Cd (kf v_19) (jG v_19))
abbrev Cp (v:Bs)(v_19:Bs)(v_24:Bs):TV:=(Y9 (bg v) (nJ v_19) (i9 v_19) (nK v_19) (nL v_19) (nM v_19) (bg v_24))
theorem VH (cs:List TV)(off n:Nat)(Q:TV→VT→Prop):ar prog ae (aF [(kJ,GL),(m8,me .i64 2),(kb,Bb),(It,yH),(jy,mc),(pk,IK),(uA,PX)]) (aZ [(999999,.dead,none)]) 300 aN 0 GD [.row 1 0 off n] (cu (.row cs)) Q=
 (((@Eq (Bool) true true)∧
 RwOk (cs) (off) (n))∧
 (((@Eq (Bool) true true)∧
 IsB (aC cs off n))∧
 (∀z:Int,(∀bz:Bs,(∀az:Int,(∀ez:Int,(((@Eq (Int) (z) (aR (2:Nat) (aC cs off n) (0:Int)))∧
 ((@Eq (Bs) (bz) (aG (↑(2:Nat):Int) (aC cs off n) (0:Int)))∧
 (@Eq (Int) (ez) (aH (↑(2:Nat):Int) (aC cs off n) (0:Int)))))→(((@Eq (Bool) true true)∧
 IsB (bz))∧
 (∀v:Bs,(∀bz_10:Bs,(∀az_11:Int,(∀ez_12:Int,(((@Eq (Bs) (v) (cm z bz ez))∧
 ((@Eq (Bs) (bz_10) (aG z bz ez))∧
 (@Eq (Int) (ez_12) (aH z bz ez))))→(((@Eq (Bool) true true)∧
 IsB (bz_10))∧
 (∀z_14:Int,(∀bz_15:Bs,(∀az_16:Int,(∀ez_17:Int,(((@Eq (Int) (z_14) (aR (2:Nat) bz_10 ez_12))∧
 ((@Eq (Bs) (bz_15) (aG (↑(2:Nat):Int) bz_10 ez_12))∧
 (@Eq (Int) (ez_17) (aH (↑(2:Nat):Int) bz_10 ez_12))))→(((@Eq (Bool) true true)∧
 IsB (bz_15))∧
 (∀v_19:Bs,(∀bz_20:Bs,(∀az_21:Int,(∀ez_22:Int,(((@Eq (Bs) (v_19) (cm z_14 bz_15 ez_17))∧
 ((@Eq (Bs) (bz_20) (aG z_14 bz_15 ez_17))∧
 (@Eq (Int) (ez_22) (aH z_14 bz_15 ez_17))))→(((@Eq (Bool) true true)∧
 IsB (bz_20))∧
 (∀v_24:Bs,(∀bz_25:Bs,(∀az_26:Int,(∀ez_27:Int,(((@Eq (Bs) (v_24) (cm (bw bz_20 ez_22) bz_20 ez_22))∧
 ((@Eq (Bs) (bz_25) (aG (bw bz_20 ez_22) bz_20 ez_22))∧
 (@Eq (Int) (ez_27) (aH (bw bz_20 ez_22) bz_20 ez_22))))→(((@Eq (Bool) true true)∧
 IsB (bz_25))∧
 (bif ax neq (k6 ez_27 (0:Int))
 then Q (.tup [Ii,PJ]) ⟨[(bB cs),lK,yA,(.cells [aI,(av bz_25),(ah az_26),(ah ez_27)]),eV,lK,yA],[]⟩
 else (IsB (v)∧
 (bif gK v
 then (IsB (v_24)∧
 (bif gK v_24
 then (bif ax eql (k6 (↑(length v_19):Int) (0:Int))
 then (bif ax eql (k6 (↑(length (bg v_24)):Int) (0:Int))
 then Q (sC (bg v) (bg v_24)) ⟨[(bB cs),(fS (bg v) (bg v_24)),cL,(.cells [aI,(av bz_25),(ah az_26),(ah ez_27)]),eV,(fS (bg v) (bg v_24)),(fm v),(fR v_24)],[]⟩
 else (IsB (v_19)∧
 (bif hZ v_19
 then (bif decide ((↑(length (bg v_24)):Int)>(0:Int))
 then (bif decide ((↑(length (bg v_24)):Int)>(0:Int))
 then Q (Cp v v_19 v_24) ⟨[(bB cs),(qr v v_19 v_24),cL,(.cells [aI,(av bz_25),(ah az_26),(ah ez_27)]),eV,(qr v v_19 v_24),(fm v),(fR v_24),(qt v_19),eg],[]⟩
 else Q (sC (bg v) (bg v_24)) ⟨[(bB cs),(fS (bg v) (bg v_24)),cL,(.cells [aI,(av bz_25),(ah az_26),(ah ez_27)]),eV,(fS (bg v) (bg v_24)),(fm v),(fR v_24),(qt v_19),eg],[]⟩)
 else (bif decide ((↑(length (bg v_24)):Int)>(0:Int))
 then Q (Cp v v_19 v_24) ⟨[(bB cs),(qr v v_19 v_24),cL,(.cells [aI,(av bz_25),(ah az_26),(ah ez_27)]),eV,(qr v v_19 v_24),(fm v),(fR v_24),(qt v_19),eg],[]⟩
 else Q (sC (bg v) (bg v_24)) ⟨[(bB cs),(fS (bg v) (bg v_24)),cL,(.cells [aI,(av bz_25),(ah az_26),(ah ez_27)]),eV,(fS (bg v) (bg v_24)),(fm v),(fR v_24),(qt v_19),eg],[]⟩))
 else (bif decide ((↑(length (bg v_24)):Int)>(0:Int))
 then Q (Cc (kf v_19) (jG v_19)) ⟨[(bB cs),lK,(kD v_19),(.cells [aI,(av bz_25),(ah az_26),(ah ez_27)]),eV,(fS (bg v) (bg v_24)),(fm v),(fR v_24),qh,(kD v_19)],[]⟩
 else (bif ax neq (k6 (kf v_19) (3:Int))
 then Q (Cc (kf v_19) (jG v_19)) ⟨[(bB cs),lK,(kD v_19),(.cells [aI,(av bz_25),(ah az_26),(ah ez_27)]),eV,(fS (bg v) (bg v_24)),(fm v),(fR v_24),qh,(kD v_19)],[]⟩
 else (bif decide ((↑(length (bg v_24)):Int)>(0:Int))
 then Q (PD (bg v) (bg v_24)) ⟨[(bB cs),(Cb (bg v) (bg v_24)),cL,(.cells [aI,(av bz_25),(ah az_26),(ah ez_27)]),eV,(Cb (bg v) (bg v_24)),(fm v),(fR v_24),qh,(kD v_19)],[]⟩
 else Q (sC (bg v) (bg v_24)) ⟨[(bB cs),(fS (bg v) (bg v_24)),cL,(.cells [aI,(av bz_25),(ah az_26),(ah ez_27)]),eV,(fS (bg v) (bg v_24)),(fm v),(fR v_24),qh,(kD v_19)],[]⟩))))))
 else (IsB (v_19)∧
 (bif hZ v_19
 then (bif decide ((↑(length (bg v_24)):Int)>(0:Int))
 then (bif decide ((↑(length (bg v_24)):Int)>(0:Int))
 then Q (Cp v v_19 v_24) ⟨[(bB cs),(qr v v_19 v_24),cL,(.cells [aI,(av bz_25),(ah az_26),(ah ez_27)]),eV,(qr v v_19 v_24),(fm v),(fR v_24),(qt v_19),eg],[]⟩
 else Q (sC (bg v) (bg v_24)) ⟨[(bB cs),(fS (bg v) (bg v_24)),cL,(.cells [aI,(av bz_25),(ah az_26),(ah ez_27)]),eV,(fS (bg v) (bg v_24)),(fm v),(fR v_24),(qt v_19),eg],[]⟩)
 else (bif decide ((↑(length (bg v_24)):Int)>(0:Int))
 then Q (Cp v v_19 v_24) ⟨[(bB cs),(qr v v_19 v_24),cL,(.cells [aI,(av bz_25),(ah az_26),(ah ez_27)]),eV,(qr v v_19 v_24),(fm v),(fR v_24),(qt v_19),eg],[]⟩
 else Q (sC (bg v) (bg v_24)) ⟨[(bB cs),(fS (bg v) (bg v_24)),cL,(.cells [aI,(av bz_25),(ah az_26),(ah ez_27)]),eV,(fS (bg v) (bg v_24)),(fm v),(fR v_24),(qt v_19),eg],[]⟩))
 else (bif decide ((↑(length (bg v_24)):Int)>(0:Int))
 then Q (Cc (kf v_19) (jG v_19)) ⟨[(bB cs),lK,(kD v_19),(.cells [aI,(av bz_25),(ah az_26),(ah ez_27)]),eV,(fS (bg v) (bg v_24)),(fm v),(fR v_24),qh,(kD v_19)],[]⟩
 else (bif ax neq (k6 (kf v_19) (3:Int))
 then Q (Cc (kf v_19) (jG v_19)) ⟨[(bB cs),lK,(kD v_19),(.cells [aI,(av bz_25),(ah az_26),(ah ez_27)]),eV,(fS (bg v) (bg v_24)),(fm v),(fR v_24),qh,(kD v_19)],[]⟩
 else (bif decide ((↑(length (bg v_24)):Int)>(0:Int))
 then Q (PD (bg v) (bg v_24)) ⟨[(bB cs),(Cb (bg v) (bg v_24)),cL,(.cells [aI,(av bz_25),(ah az_26),(ah ez_27)]),eV,(Cb (bg v) (bg v_24)),(fm v),(fR v_24),qh,(kD v_19)],[]⟩
 else Q (sC (bg v) (bg v_24)) ⟨[(bB cs),(fS (bg v) (bg v_24)),cL,(.cells [aI,(av bz_25),(ah az_26),(ah ez_27)]),eV,(fS (bg v) (bg v_24)),(fm v),(fR v_24),qh,(kD v_19)],[]⟩))))))
 else Q PC ⟨[(bB cs),lK,Ca,(.cells [aI,(av bz_25),(ah az_26),(ah ez_27)]),eV,(.cells [(aY (bg v)),aB,aE,bD,aB,aj,aE]),(fm v),(fR v_24),lK,Ca],[]⟩))
 else Q PC ⟨[(bB cs),lK,Ca,(.cells [aI,(av bz_25),(ah az_26),(ah ez_27)]),eV,lK,(fm v),lK,Ca],[]⟩))))))))))))))))))))))))))))))))))):=by kernel_rfl
abbrev IX:TV:=(sB [[(.val (.int .u8 0))],[(.val (.int .u8 4))]])
theorem VI (cs:List TV)(off n:Nat)(pas:Int)(Q:TV→VT→Prop):ar prog ae (aF [(kJ,GL),(i7,me .i64 1),(m8,me .i64 2),(Ch,me .u32 4),(kK,nR),(nI,PP)]) (aZ [(999999,.dead,none)]) 300 aN 0 Gi [.row 1 0 off n,.val (.int .i64 pas)] (cu (.row cs)) Q=
 (bif decide ((↑n:Int)<(10:Int))
 then Q yz ⟨[(bB cs),cf,mX,cf,mX],[]⟩
 else (((@Eq (Bool) true true)∧
 RwOk (cs) (off) (n))∧
 (((@Eq (Bool) true true)∧
 IsB (aC cs off n))∧
 (∀z:Int,(∀bz:Bs,(∀az:Int,(∀ez:Int,(((@Eq (Int) (z) (aR (1:Nat) (aC cs off n) (0:Int)))∧
 ((@Eq (Bs) (bz) (aG (↑(1:Nat):Int) (aC cs off n) (0:Int)))∧
 (@Eq (Int) (ez) (aH (↑(1:Nat):Int) (aC cs off n) (0:Int)))))→(bif ax neq (k6 z (4:Int))
 then Q (.tup [vA,(.agg [dk,dK,IX])]) ⟨[(bB cs),cf,(.cells [dk,dK,IX]),(.cells [aI,(av bz),(ah az),(ah ez)]),cf,(.cells [dk,dK,IX])],[]⟩
 else (((@Eq (Bool) true true)∧
 IsB (bz))∧
 (∀z_10:Int,(∀bz_11:Bs,(∀az_12:Int,(∀ez_13:Int,(((@Eq (Int) (z_10) (aR (2:Nat) bz ez))∧
 ((@Eq (Bs) (bz_11) (aG (↑(2:Nat):Int) bz ez))∧
 (@Eq (Int) (ez_13) (aH (↑(2:Nat):Int) bz ez))))→(((@Eq (Bool) true true)∧
 IsB (bz_11))∧
 (∀z_15:Int,(∀bz_16:Bs,(∀az_17:Int,(∀ez_18:Int,(((@Eq (Int) (z_15) (aR (2:Nat) bz_11 ez_13))∧
 ((@Eq (Bs) (bz_16) (aG (↑(2:Nat):Int) bz_11 ez_13))∧
 (@Eq (Int) (ez_18) (aH (↑(2:Nat):Int) bz_11 ez_13))))→(((@Eq (Bool) true true)∧
 IsB (bz_16))∧
 (∀z_20:Int,(∀bz_21:Bs,(∀az_22:Int,(∀ez_23:Int,(((@Eq (Int) (z_20) (aR (4:Nat) bz_16 ez_18))∧
 ((@Eq (Bs) (bz_21) (aG (↑(4:Nat):Int) bz_16 ez_18))∧
 (@Eq (Int) (ez_23) (aH (↑(4:Nat):Int) bz_16 ez_18))))→(((@Eq (Bool) true true)∧
 IsB (bz_21))∧
 (∀z_25:Int,(∀bz_26:Bs,(∀az_27:Int,(∀ez_28:Int,(((@Eq (Int) (z_25) (aR (1:Nat) bz_21 ez_23))∧
 ((@Eq (Bs) (bz_26) (aG (↑(1:Nat):Int) bz_21 ez_23))∧
 (@Eq (Int) (ez_28) (aH (↑(1:Nat):Int) bz_21 ez_23))))→(bif ax eql (k6 z_10 (0:Int))
 then Q PA ⟨[(bB cs),cf,B9,(.cells [aI,(av bz_26),(ah az_27),(ah ez_28)]),(fQ z_10 z_15 z_20),cf,B9],[]⟩
 else (bif decide (pas≥(1:Int))
 then (bif ax neq (k6 z_10 pas)
 then Q PA ⟨[(bB cs),cf,B9,(.cells [aI,(av bz_26),(ah az_27),(ah ez_28)]),(fQ z_10 z_15 z_20),cf,B9],[]⟩
 else (bif ax eql (k6 z_15 (0:Int))
 then (bif ax eql (aX (Value.int u32 z_20) (Value.int u32 (0:Int)))
 then Q B8 ⟨[(bB cs),cf,qg,(.cells [aI,(av bz_26),(ah az_27),(ah ez_28)]),(fQ z_10 z_15 z_20),cf,qg],[]⟩
 else (((@Eq (Bool) true true)∧
 IsB (bz_26))∧
 (bif ax neq (k6 z_25 (bw bz_26 ez_28))
 then Q yz ⟨[(bB cs),cf,mX,(.cells [aI,(av bz_26),(ah az_27),(ah ez_28)]),(fQ z_10 z_15 z_20),cf,mX],[]⟩
 else (((@Eq (Bool) true true)∧
 IsB (bz_26))∧
 (∀bz_30:Bs,(∀az_31:Int,(∀ez_32:Int,(bif gq bz_26 ez_28
 then Q (B7 z_10 z_15 z_20 (fV bz_26 ez_28)) ⟨[(bB cs),(lH z_10 z_15 z_20 (fV bz_26 ez_28)),cL,(.cells [aI,(av bz_30),(ah az_31),(ah ez_32)]),(lH z_10 z_15 z_20 (fV bz_26 ez_28))],[]⟩
 else Q (B6 (jZ bz_26 ez_28)) ⟨[(bB cs),cf,(qf (jZ bz_26 ez_28)),(.cells [aI,(av bz_30),(ah az_31),(ah ez_32)]),(fQ z_10 z_15 z_20),cf,(qf (jZ bz_26 ez_28))],[]⟩))))))))
 else (bif decide (z_15≥(3:Int))
 then (bif !decide (z_15≤(65535:Int))
 then Q B5 ⟨[(bB cs),cf,qe,(.cells [aI,(av bz_26),(ah az_27),(ah ez_28)]),(fQ z_10 z_15 z_20),cf,qe],[]⟩
 else (bif ax eql (aX (Value.int u32 z_20) (Value.int u32 (0:Int)))
 then Q B8 ⟨[(bB cs),cf,qg,(.cells [aI,(av bz_26),(ah az_27),(ah ez_28)]),(fQ z_10 z_15 z_20),cf,qg],[]⟩
 else (((@Eq (Bool) true true)∧
 IsB (bz_26))∧
 (bif ax neq (k6 z_25 (bw bz_26 ez_28))
 then Q yz ⟨[(bB cs),cf,mX,(.cells [aI,(av bz_26),(ah az_27),(ah ez_28)]),(fQ z_10 z_15 z_20),cf,mX],[]⟩
 else (((@Eq (Bool) true true)∧
 IsB (bz_26))∧
 (∀bz_30:Bs,(∀az_31:Int,(∀ez_32:Int,(bif gq bz_26 ez_28
 then Q (B7 z_10 z_15 z_20 (fV bz_26 ez_28)) ⟨[(bB cs),(lH z_10 z_15 z_20 (fV bz_26 ez_28)),cL,(.cells [aI,(av bz_30),(ah az_31),(ah ez_32)]),(lH z_10 z_15 z_20 (fV bz_26 ez_28))],[]⟩
 else Q (B6 (jZ bz_26 ez_28)) ⟨[(bB cs),cf,(qf (jZ bz_26 ez_28)),(.cells [aI,(av bz_30),(ah az_31),(ah ez_32)]),(fQ z_10 z_15 z_20),cf,(qf (jZ bz_26 ez_28))],[]⟩)))))))))
 else Q B5 ⟨[(bB cs),cf,qe,(.cells [aI,(av bz_26),(ah az_27),(ah ez_28)]),(fQ z_10 z_15 z_20),cf,qe],[]⟩)))
 else (bif ax eql (k6 z_15 (0:Int))
 then (bif ax eql (aX (Value.int u32 z_20) (Value.int u32 (0:Int)))
 then Q B8 ⟨[(bB cs),cf,qg,(.cells [aI,(av bz_26),(ah az_27),(ah ez_28)]),(fQ z_10 z_15 z_20),cf,qg],[]⟩
 else (((@Eq (Bool) true true)∧
 IsB (bz_26))∧
 (bif ax neq (k6 z_25 (bw bz_26 ez_28))
 then Q yz ⟨[(bB cs),cf,mX,(.cells [aI,(av bz_26),(ah az_27),(ah ez_28)]),(fQ z_10 z_15 z_20),cf,mX],[]⟩
 else (((@Eq (Bool) true true)∧
 IsB (bz_26))∧
 (∀bz_30:Bs,(∀az_31:Int,(∀ez_32:Int,(bif gq bz_26 ez_28
 then Q (B7 z_10 z_15 z_20 (fV bz_26 ez_28)) ⟨[(bB cs),(lH z_10 z_15 z_20 (fV bz_26 ez_28)),cL,(.cells [aI,(av bz_30),(ah az_31),(ah ez_32)]),(lH z_10 z_15 z_20 (fV bz_26 ez_28))],[]⟩
 else Q (B6 (jZ bz_26 ez_28)) ⟨[(bB cs),cf,(qf (jZ bz_26 ez_28)),(.cells [aI,(av bz_30),(ah az_31),(ah ez_32)]),(fQ z_10 z_15 z_20),cf,(qf (jZ bz_26 ez_28))],[]⟩))))))))
 else (bif decide (z_15≥(3:Int))
 then (bif !decide (z_15≤(65535:Int))
 then Q B5 ⟨[(bB cs),cf,qe,(.cells [aI,(av bz_26),(ah az_27),(ah ez_28)]),(fQ z_10 z_15 z_20),cf,qe],[]⟩
 else (bif ax eql (aX (Value.int u32 z_20) (Value.int u32 (0:Int)))
 then Q B8 ⟨[(bB cs),cf,qg,(.cells [aI,(av bz_26),(ah az_27),(ah ez_28)]),(fQ z_10 z_15 z_20),cf,qg],[]⟩
 else (((@Eq (Bool) true true)∧
 IsB (bz_26))∧
 (bif ax neq (k6 z_25 (bw bz_26 ez_28))
 then Q yz ⟨[(bB cs),cf,mX,(.cells [aI,(av bz_26),(ah az_27),(ah ez_28)]),(fQ z_10 z_15 z_20),cf,mX],[]⟩
 else (((@Eq (Bool) true true)∧
 IsB (bz_26))∧
 (∀bz_30:Bs,(∀az_31:Int,(∀ez_32:Int,(bif gq bz_26 ez_28
 then Q (B7 z_10 z_15 z_20 (fV bz_26 ez_28)) ⟨[(bB cs),(lH z_10 z_15 z_20 (fV bz_26 ez_28)),cL,(.cells [aI,(av bz_30),(ah az_31),(ah ez_32)]),(lH z_10 z_15 z_20 (fV bz_26 ez_28))],[]⟩
 else Q (B6 (jZ bz_26 ez_28)) ⟨[(bB cs),cf,(qf (jZ bz_26 ez_28)),(.cells [aI,(av bz_30),(ah az_31),(ah ez_32)]),(fQ z_10 z_15 z_20),cf,(qf (jZ bz_26 ez_28))],[]⟩)))))))))
 else Q B5 ⟨[(bB cs),cf,qe,(.cells [aI,(av bz_26),(ah az_27),(ah ez_28)]),(fQ z_10 z_15 z_20),cf,qe],[]⟩))))))))))))))))))))))))))))))))))))):=by kernel_rfl
theorem SK (cs:List TV)(off n:Nat)(Q:TV→VT→Prop):ar prog ae (aF [(nS,P0)]) aT 300 aN 0 kJ [.row 1 0 off n] (cu (.row cs)) Q=
 (((@Eq (Bool) true true)∧
 RwOk (cs) (off) (n))∧
 Q iy ⟨[(bB cs),(.cells [aI,(av (aC cs off n)),aB,aB])],[]⟩):=by kernel_rfl
theorem VJ (cs W:List TV)(off n:Nat)(Q:TV→VT→Prop):ar prog ae bt (aZ [(7,.row 1 1 0 n,some λT=>T.newRow W)]) 300 aN 0 nS [.row 1 0 off n] (cu (.row cs)) Q=
 (bb prog (λ_=>.none) 0 (gn cs) (.call ⟨(.builtin .append),#[(.tmp 5),(.tmp 6)],#[22,22]⟩) [(5,vF),(6,(.row 1 0 off n))] (gm n) ⟨[(bB cs),(bB W)],[]⟩∧
 Q (gm n) ⟨[(bB cs),(bB W)],[]⟩):=by kernel_rfl
theorem SL (cs:List TV)(off:Nat)(Q:TV→VT→Prop):ar prog ae bt (aZ [(7,.vec 1 [] .full,some λT=>T)]) 300 aN 0 nS [.row 1 0 off 0] (cu (.row cs)) Q=
 (bb prog (λ_=>.none) 0 (gn cs) (.call ⟨(.builtin .append),#[(.tmp 5),(.tmp 6)],#[22,22]⟩) [(5,vF),(6,(.row 1 0 off 0))] vF (gn cs)∧
 Q vF (gn cs)):=by kernel_rfl
end Go.Proofs.YtogbdjlelkepcaaGreatDoor