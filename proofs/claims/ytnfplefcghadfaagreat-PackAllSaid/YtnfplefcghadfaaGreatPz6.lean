/-Part 6 of the proof of packAll_holds:PqA. No condition. -/
import Derived.Test.YtnfplefcghadfaaGreatPz1
import Derived.Test.YtnfplefcghadfaaGreatPz2
import Derived.Test.YtnfplefcghadfaaGreatPz3
import Derived.Test.YtnfplefcghadfaaGreatPz4
import Derived.Test.YtnfplefcghadfaaGreatPz5
set_option maxRecDepth 100000
--RbN
namespace Go.Proofs.YtnfplefcghadfaaGreat
section
open Go.RowKit
set_option maxRecDepth 100000

theorem DC:∀ro ys T K,Bl ro ys T K→VCx Tryz.prog ae ro Bk ys T K:=by
 intro ro ys T K hw
 unfold Bl at hw
 split at hw
 ·rename_i a n
  obtain ⟨⟨⟨h0,h1⟩,hn⟩,hk⟩:=hw
  obtain ⟨m,rfl⟩:∃m:Nat,a=m:=⟨a.toNat,by omega⟩
  have hv:VCalls Tryz.prog Bk [.agg [.val (.int .u32 m), .val (.int .i64 n)]] ⟨[], []⟩ fun x T' =>x= .val (.bool (iY m n))∧T' =⟨[], []⟩:=
   VCalls.of_grT (us:= [.agg #[.int .u32 m, .int .i64 n]]) rfl (fun w=>Nq m (by omega) n hn w) _
  refine VCx.liftPure ap (VCx.ofCalls rfl hv fun _ _=>rfl) rfl (fun _ _=>rfl) ?_
  rw [H9 m (by omega) n];exact hk
 ·exact hw.elim
theorem Ia {a:AtV} (hn:a.p.length≤9223372036854775807):eP Tryz.prog ae (N4 a (a.p.all cP) (am Tryz.prog kA 0)):=aL fun p hp=>by
  obtain rfl:=List.mem_singleton.1 hp
  refine aS fun K hK=> ?_
  refine bK (f:=kA) (id:=0) (by kernel_rfl) 56 tQ (fun j:Nat=>a.p.length-j) (fun j:Nat=>uY (iV a.p) j) (fun _=>⟨[.cells a.cells], []⟩) (fun j=>j≤a.p.length∧(a.p.take j).all cP=true) 1 0 (fun _ _=>⟨Nat.le_refl _,Nat.le_refl _⟩)
    (fun e vs T=>T=⟨[.cells a.cells], []⟩∧((e= .normal∧a.p.all cP=true∧vs=uY (iV a.p) (iV a.p).length)∨(e= .ret∧a.p.all cP=false∧∃z:Int,vs=uY (iV a.p) z))) (fun j hj=> ?_) 0 ⟨Nat.zero_le _,rfl⟩ K ?_
  · obtain ⟨hj,hall⟩:=hj
    by_cases hlt:j<a.p.length
    · have hat:(iV a.p)[((j:Nat):Int).toNat]?=some (iT a.p[j]):=by rw [Int.toNat_natCast,iV,List.getElem?_map,List.getElem?_eq_getElem hlt];rfl
      have bad:cP a.p[j]=false→a.p.all cP=false:=fun h=>by
        cases hc:a.p.all cP
        · rfl
        · have:=List.all_eq_true.1 hc _ (List.getElem_mem hlt);rw [h] at this;cases this
      refine aI ac aa ai ah (DA a a.p[j] j _) ?_
      refine aN (decide_eq_true (by rw [dv];omega)) ⟨gD rfl rfl (by omega) hat,aF (fun c1=> ?_) (fun c1=>aF (fun c2=> ?_) (fun c2=> ?_))⟩
      · refine ⟨rfl,rfl,rfl, .inr ⟨rfl,bad ?_,j,rfl⟩⟩
        have:=of_decide_eq_true c1
        unfold cP;rw [decide_eq_false (by omega)];rfl
      · refine ⟨rfl,rfl,rfl, .inr ⟨rfl,bad ?_,j,rfl⟩⟩
        have:=of_decide_eq_true c2
        unfold cP;rw [decide_eq_false (p:=a.p[j]≤65535) (by omega),Bool.and_false]
      · have d1:=of_decide_eq_false c1
        have d2:=of_decide_eq_false c2
        refine ⟨rfl,rfl,j+1,⟨hlt, ?_⟩,by show a.p.length-(j+1)<a.p.length-j;omega, .inl ⟨rfl,by rw [sq hlt hn];rfl⟩⟩
        rw [List.take_add_one,List.getElem?_eq_getElem hlt,List.all_append,hall]
        simp only [Option.toList_some,List.all_cons,List.all_nil,Bool.and_true,Bool.true_and]
        unfold cP;rw [decide_eq_true (by omega),decide_eq_true (by omega)];rfl
    · have hj2:j=a.p.length:=by omega
      subst hj2
      rw [List.take_length] at hall
      refine aI ac aa ai ah (DA a 0 a.p.length _) ?_
      exact aH (decide_eq_false (by rw [dv];omega)) ⟨rfl,rfl,rfl, .inl ⟨rfl,hall,by simp only [uY,dv]⟩⟩
  · rintro e vs T ⟨rfl,⟨rfl,h1,rfl⟩ | ⟨rfl,h1,z,rfl⟩⟩
    · have:=hK 0;rw [h1] at this;exact this
    · have:=hK z;rw [h1] at this;exact this
theorem zn {a:AtV} (hn:a.p.length≤9223372036854775807):VCx Tryz.prog ae 0 kA [.agg a.cells] ⟨[], []⟩ fun x T' =>x= .val (.bool (cX a))∧T' =⟨[], []⟩:=by
 refine VCx.keepQ 0 0 (Nat.le_refl _) (Nat.le_refl _) (ak ac aa ai (Ia hn) (Nt a (a.p.all cP) _) ⟨rfl,⟨rfl,rfl,rfl,trivial,rfl,rfl,rfl⟩,fun z=> ?_⟩)
 have no:∀l:List VO,cX a=false→(TV.ren (au 0) (au 0) (.val (.bool false))= .val (.bool (cX a))∧VT.keep ⟨l, []⟩ 0 0=⟨[], []⟩):=fun l h=>by rw [h];exact ⟨rfl,rfl⟩
 unfold cX at no ⊢
 refine aF (fun h1=> ?_) (fun h1=>no _ (by rw [h1];simp))
 rw [h1] at no ⊢
 refine aF (fun h2=>no _ (by have:=of_decide_eq_true h2;rw [decide_eq_false (p:=0≤a.o) (by omega)];rfl)) (fun h2=> ?_)
 have d2:=of_decide_eq_false h2
 rw [decide_eq_true (p:=0≤a.o) (by omega)] at no ⊢
 refine aF (fun h3=>no _ (by have:=of_decide_eq_true h3;rw [decide_eq_false (p:=a.o≤2) (by omega)];rfl)) (fun h3=> ?_)
 have d3:=of_decide_eq_false h3
 rw [decide_eq_true (p:=a.o≤2) (by omega)] at no ⊢
 rw [dv]
 refine aF (fun h4=>no _ (by have:=of_decide_eq_true h4;rw [decide_eq_false (p:=a.p.length≤16) (by omega)];simp)) (fun h4=> ?_)
 have d4:=of_decide_eq_false h4
 rw [decide_eq_true (p:=a.p.length≤16) (by omega)] at no ⊢
 unfold m7 at no ⊢
 generalize aG BinOp.neq (ar (Value.int IntKind.u32 a.h) (Value.int IntKind.u32 (0:Int)))=b1 at no ⊢
 generalize aG BinOp.neq (ar (Value.int IntKind.u32 a.h) (Value.int IntKind.u32 (4294967295:Int)))=b2 at no ⊢
 generalize aG BinOp.neq (ar (Value.int IntKind.u32 (Int.fdiv a.h ((2:Int)^min (Int.toNat (24:Int)) (IntKind.bits IntKind.u32)))) (Value.int IntKind.u32 (127:Int)))=b3 at no ⊢
 generalize aG BinOp.neq (ar (Value.int IntKind.u32 (Int.fdiv a.h ((2:Int)^min (Int.toNat (29:Int)) (IntKind.bits IntKind.u32)))) (Value.int IntKind.u32 (7:Int)))=b4 at no ⊢
 cases b1
 ·exact no _ rfl
 cases b2
 ·exact no _ rfl
 cases b3
 ·exact no _ rfl
 cases b4
 ·exact no _ rfl
 simp only [cond_true,cond_false,Bool.not_true] at no ⊢
 refine aF (fun h5=>no _ ?_) (fun h5=> ?_)
 ·have d5:=of_decide_eq_true h5
  cases a.hm
  ·simp;omega
  ·simp;omega
 have d5:=of_decide_eq_false h5
 refine aF (fun h6=>no _ ?_) (fun h6=> ?_)
 ·have d6:=of_decide_eq_true h6
  cases a.hm
  ·simp;omega
  ·simp;omega
 have d6:=of_decide_eq_false h6
 refine aF (fun h7=> ?_) (fun h7=> ?_)
 ·rw [h7]
  refine ⟨?_,rfl⟩
  have e1:decide (0≤a.m)=true:=decide_eq_true (by omega)
  have e2:decide (a.m≤4294967295)=true:=decide_eq_true (by omega)
  rw [e1,e2];rfl
 ·rw [h7,nK]
  exact ⟨rfl,rfl⟩
theorem Ib (ok:Bool):∀ro ys T K,Bm ok ro ys T K→VCx Tryz.prog ae ro kA ys T K:=by
 intro ro ys T K hw
 unfold Bm at hw
 split at hw
 ·obtain ⟨⟨a,rfl,hn,rfl⟩,hk⟩:=hw
  exact VCx.liftPure ap (zn hn) (by simp only [av,TV.ren,AtV.ren']) (fun _ _=>rfl) hk
 ·exact hw.elim
theorem Ic {a b:AtV} (hn:a.p.length≤9223372036854775807):eP Tryz.prog ae (N5 a b (decide (a.p=b.p)) (am Tryz.prog kB 0)):=aL fun p hp=>by
  obtain rfl:=List.mem_singleton.1 hp
  have hL:∀l:List Int,(iV l).length=l.length:=fun l=>List.length_map _
  refine aS fun K hK=> ?_
  obtain ⟨hlm,hK⟩:=hK
  rw [hL,hL] at hlm
  refine bK (f:=kB) (id:=0) (by kernel_rfl) 59 tR (fun j:Nat=>a.p.length-j) (fun j:Nat=>uZ (iV a.p) j) (fun _=>⟨[.cells a.cells, .cells b.cells], []⟩) (fun j=>j≤a.p.length∧a.p.take j=b.p.take j) 2 0 (fun _ _=>⟨Nat.le_refl _,Nat.le_refl _⟩)
    (fun e vs T=>T=⟨[.cells a.cells, .cells b.cells], []⟩∧((e= .normal∧a.p=b.p∧vs=uZ (iV a.p) (iV a.p).length)∨(e= .ret∧a.p≠b.p∧∃z:Int,vs=uZ (iV a.p) z))) (fun j hj=> ?_) 0 ⟨Nat.zero_le _,rfl⟩ K ?_
  · obtain ⟨hj,hall⟩:=hj
    by_cases hlt:j<a.p.length
    · have hlt2:j<b.p.length:=by omega
      have hat:(iV a.p)[((j:Nat):Int).toNat]?=some (iT a.p[j]):=by rw [Int.toNat_natCast];show (a.p.map _)[j]?=_;rw [List.getElem?_map,List.getElem?_eq_getElem hlt];rfl
      have hat2:(iV b.p)[((j:Nat):Int).toNat]?=some (iT b.p[j]):=by rw [Int.toNat_natCast];show (b.p.map _)[j]?=_;rw [List.getElem?_map,List.getElem?_eq_getElem hlt2];rfl
      refine aI ac aa ai ah (DB a b a.p[j] b.p[j] j _) ?_
      refine aN (decide_eq_true (by rw [hL];omega)) ⟨gD rfl rfl (by omega) hat,gD rfl rfl (by omega) hat2, ?_⟩
      rw [lg]
      refine aF (fun c1=> ?_) (fun c1=> ?_)
      · refine ⟨rfl,rfl,rfl, .inr ⟨rfl,fun h=> ?_,j,rfl⟩⟩
        have he:a.p[j]?=b.p[j]?:=by rw [h]
        rw [List.getElem?_eq_getElem hlt,List.getElem?_eq_getElem hlt2] at he
        injection he with he
        simp [he] at c1
      · refine ⟨rfl,rfl,j+1,⟨hlt, ?_⟩,by show a.p.length-(j+1)<a.p.length-j;omega, .inl ⟨rfl,by rw [sq hlt hn];rfl⟩⟩
        have he:a.p[j]=b.p[j]:=by simpa using c1
        rw [List.take_add_one,List.getElem?_eq_getElem hlt,List.take_add_one,List.getElem?_eq_getElem hlt2,hall,he]
    · have hj2:j=a.p.length:=by omega
      subst hj2
      rw [List.take_length,hlm,List.take_length] at hall
      refine aI ac aa ai ah (DB a b 0 0 a.p.length _) ?_
      exact aH (decide_eq_false (by rw [hL];omega)) ⟨rfl,rfl,rfl, .inl ⟨rfl,hall,by simp only [uZ,hL]⟩⟩
  · rintro e vs T ⟨rfl,⟨rfl,h1,rfl⟩ | ⟨rfl,h1,z,rfl⟩⟩
    · have:=hK 0;rw [decide_eq_true h1] at this;exact this
    · have:=hK z;rw [decide_eq_false h1] at this;exact this
theorem ON (x y:Bool):aG BinOp.neq (ar (.bool x) (.bool y))= !decide (x=y):=by
 cases x<;>cases y<;>rfl
theorem zo {a b:AtV} (hn:a.p.length≤9223372036854775807):VCx Tryz.prog ae 0 kB [.agg a.cells, .agg b.cells] ⟨[], []⟩ fun x T' =>x= .val (.bool (decide (a=b)))∧T' =⟨[], []⟩:=by
 have hL:∀l:List Int,(iV l).length=l.length:=fun l=>List.length_map _
 have no:∀l:List VO,a≠b→(TV.ren (au 0) (au 0) (.val (.bool false))= .val (.bool (decide (a=b)))∧VT.keep ⟨l, []⟩ 0 0=⟨[], []⟩):=fun l h=>by rw [decide_eq_false h];exact ⟨rfl,rfl⟩
 refine VCx.keepQ 0 0 (Nat.le_refl _) (Nat.le_refl _) ?_
 refine ak ac aa ai (Ic hn) (Nu a b (decide (a.p=b.p)) _) ?_
 rw [lg,lg,lg,ON,lg,hL,hL]
 refine aF (fun h=>no _ fun e=> ?_) (fun h1=>aF (fun h=>no _ fun e=> ?_) (fun h2=>aF (fun h=>no _ fun e=> ?_) (fun h3=>aF (fun h=>no _ fun e=> ?_) (fun h4=>aF (fun h=>no _ fun e=> ?_) (fun h0=> ?_)))))
 ·rw [e] at h;simp at h
 ·rw [e] at h;simp at h
 ·rw [e] at h;simp at h
 ·rw [e] at h;simp at h
 ·rw [e] at h;simp at h
 have hlm:a.p.length=b.p.length:=by
  have:=h0
  simp only [Bool.not_eq_false',decide_eq_true_eq] at this
  omega
 refine ⟨rfl,⟨rfl,rfl,rfl,trivial,rfl,rfl,by rw [←hL a.p]⟩,hlm,fun z=> ?_⟩
 have e1:a.o=b.o:=by simpa using h1
 have e2:a.h=b.h:=by simpa using h2
 have e3:a.m=b.m:=by simpa using h3
 have e4:a.hm=b.hm:=by simpa using h4
 refine aF (fun h=> ?_) (fun h=>no _ fun e=> ?_)
 ·have e5:=of_decide_eq_true h
  have e:a=b:=by
   obtain ⟨o,p,h,m,hm⟩:=a
   obtain ⟨o2,p2,h2,m2,hm2⟩:=b
   simp only at e1 e2 e3 e4 e5
   rw [e1,e2,e3,e4,e5]
  rw [decide_eq_true e];exact ⟨rfl,rfl⟩
 ·exact of_decide_eq_false h (by rw [e])
theorem Id (ok:Bool):∀ro ys T K,Bn ok ro ys T K→VCx Tryz.prog ae ro kB ys T K:=by
 intro ro ys T K hw
 unfold Bn at hw
 split at hw
 ·obtain ⟨⟨a,rfl,hn,rfl,rfl⟩,hk⟩:=hw
  refine VCx.liftPure ap (xs:= [.agg a.cells, .agg Fs]) (VCx.argsLe (xs:= [.agg a.cells, .agg bm.cells]) ?_ (zo (b:=bm) hn)) ?_ (fun _ _=>rfl) hk
  ·exact ⟨.refl _, .agg ⟨.refl _, .nil 1, .refl _, .refl _, .refl _,trivial⟩,trivial⟩
  ·simp only [av,TV.ren,AtV.ren'];rfl
 ·exact hw.elim
theorem Ie (p:Px) {a:AtV} (g:Bool) (hp:gg p.1 p.2) (ha:a.p.length≤9223372036854775807):VCx Tryz.prog ae 0 K2 [.agg (az p.1 p.2 a g)] ⟨[], []⟩ fun x T' =>x= .val (.bool (uX p a g))∧T' =⟨[], []⟩:=by
 have hS:aQ Tryz.prog ae (aw [(Bk,Bl),(kA,Bm (cX a)),(kB,Bn (decide (a=bm)))]):=aE fun q hq=>by
  rcases List.mem_cons.1 hq with rfl | hq;exact DC
  rcases List.mem_cons.1 hq with rfl | hq;exact Ib _
  obtain rfl:=List.mem_singleton.1 hq;exact Id _
 refine VCx.keepQ 0 0 (Nat.le_refl _) (Nat.le_refl _) (ak ac aa hS ah (Nv p.1 p.2 a g (cX a) (decide (a=bm)) _) ?_)
 unfold uX
 refine aF (fun hg=>⟨hp, ?_⟩) (fun hg=>⟨hp, ?_⟩)
 ·subst hg
  refine aF (fun hp=> ?_) (fun hp=> ?_)
  ·rw [hp];exact ⟨⟨a,rfl,ha,rfl,rfl⟩,rfl,rfl⟩
  ·rw [hp];exact ⟨rfl,rfl⟩
 ·subst hg
  refine aF (fun hp=> ?_) (fun hp=> ?_)
  ·rw [hp];exact ⟨⟨a,rfl,ha,rfl⟩,rfl,rfl⟩
  ·rw [hp];exact ⟨rfl,rfl⟩
end
--RbO
section
open Go.RowKit
set_option maxRecDepth 100000

theorem Ok (p q:Px):aG BinOp.eql (ar (dz p) (dz q))=decide (p=q):=by rw [K0];rfl
end
--PkA
section
open Go.RowKit Go.Sort Go.Shelf
set_option maxRecDepth 100000

def lm (V:Px→Nat→Value) (p:Px):List Value:= [.int .u32 p.1, .int .i64 p.2,V p 0,V p 1,V p 2,V p 3,V p 4,V p 5]
theorem mr (V:Px→Nat→Value) (p:Px):(lm V p).length=8:=rfl
set_option maxHeartbeats 400000 in
theorem FF (V:Px→Nat→Value) (x y:Px) (w:World):
  Calls Tryz.prog 28 #[.agg #[.int .u32 x.1, .int .i64 x.2,V x 0,V x 1,V x 2,V x 3,V x 4,V x 5], .agg #[.int .u32 y.1, .int .i64 y.2,V y 0,V y 1,V y 2,V y 3,V y 4,V y 5]] w fun e w' =>e= .returned (.int .i64 (ll x y))∧Gd w w' :=by
 have HC:=Lib.hid fun W=>No x.1 x.2 y.1 y.2 W
 go_enter Tryz.func28,Tryz.ntmps28
 go_wp2_with fail
 refine (HC.out _).mono ?_;rintro e w1 ⟨rfl,hb⟩
 go_wp2
 go_ret
 exact ⟨rfl,(((Gd.refl w).alloc _).alloc _).trans hb⟩
end
--PkB
section
open Go.RowKit Go.Sort Go.Shelf
set_option maxRecDepth 100000

abbrev xt:=27
def u4 (a n:Int) (m:Nat) (x:AtV) (g:Bool):List TV:= [.val (.int .u32 a), .val (.int .i64 n), .val (.int .i64 x.o), .vec 1 (iV x.p) (.arg m), .val (.int .u32 x.h), .val (.int .i64 x.m), .val (.bool x.hm), .val (.bool g)]
def ic (m:Nat) (R:Px→AtV × Bool) (p:Px):List TV:=u4 p.1 p.2 m (R p).1 (R p).2
theorem pI (m:Nat) (R:Px→AtV × Bool) (p:Px):(ic m R p).length=8:=rfl
def kC (ks:List Px) (us:List Value) (p:Px) (j:Nat):Value:=if p∈ks then (us[ks.idxOf p*8+(j+2)]?).getD (.bool false) else .bool false
theorem Nw (V:Px→Nat→Value) (blk off size:Nat) (w:World):CmpLays Tryz.prog 28 #[] (lm V) 8 ll blk off size w:=
 fun _ _ _ _ x y=>(FF V x y _).mono fun _ _ ⟨he,hg⟩=>⟨he,hg.grow⟩
theorem u5 {p:Px}:∀{ks:List Px} {i:Nat},ks.Nodup→ks[i]?=some p→ks.idxOf p=i
 | [],_,_,h=>by simp at h
 | a::l,0,_,h=>by
  simp at h;subst h
  exact List.idxOf_cons_self
 | a::l,i+1,hn,h=>by
  have h' :l[i]?=some p:=by simpa using h
  have hm:p∈l:=List.mem_of_getElem? h'
  have hne:a≠p:=fun e=>(List.nodup_cons.1 hn).1 (e▸hm)
  rw [List.idxOf_cons,u5 (List.nodup_cons.1 hn).2 h']
  rw [show (a==p)=false by simpa using hne]
  rfl
theorem K3 {m:Nat} {g:Gh} {w:World} {R:Px→AtV × Bool} {ks:List Px} {us:List Value} (hn:ks.Nodup) (hl:ks.length*8≤us.length) (h:VRs g w (ks.flatMap (ic m R)) (us.take (ks.length*8))) {i:Nat} {p:Px} (hp:ks[i]?=some p):
  VRs g w (ic m R p) (lm (kC ks us) p)∧(us.drop (i*8)).take 8=lm (kC ks us) p:=by
 obtain ⟨hi,hpi⟩:=List.getElem?_eq_some_iff.1 hp
 have hm:p∈ks:=by rw [←hpi];exact List.getElem_mem hi
 have hx:ks.idxOf p=i:=u5 hn hp
 have hs:(ks.flatMap (ic m R)).drop (i*8)=ic m R p++(ks.drop (i+1)).flatMap (ic m R):=by
  have:∀(l:List Px) (i:Nat),l[i]?=some p→(l.flatMap (ic m R)).drop (i*8)=ic m R p++(l.drop (i+1)).flatMap (ic m R):=by
   intro l
   induction l with
   | nil=>intro i h;simp at h
   | cons a l ih=>
    intro i h
    cases i with
    | zero=>
     simp at h;subst h
     rw [List.flatMap_cons];rfl
    | succ i=>
     rw [List.flatMap_cons,show (i+1)*8=(ic m R a).length+i*8 by rw [pI];omega,List.drop_append,List.drop_of_length_le (by omega),Nat.add_sub_cancel_left,List.nil_append]
     exact ih i (by simpa using h)
  exact this ks i hp
 have h2:=(h.drop (i*8)).take 8
 rw [hs,List.take_left' (pI m R p),List.drop_take,List.take_take,show min 8 (ks.length*8-i*8)=8 by omega] at h2
 have hu:(us.drop (i*8)).take 8=lm (kC ks us) p:=by
  have hl8:((us.drop (i*8)).take 8).length=8:=by rw [h2.1];rfl
  have hg:∀j,j<8→((us.drop (i*8)).take 8)[j]?=us[i*8+j]?:=fun j hj=>by
   rw [List.getElem?_take,if_pos hj,List.getElem?_drop]
  have hin:∀j,j<8→i*8+j<us.length:=fun j hj=>by omega
  have hval:∀(j:Nat) (v:Value) (hj:j<8),(ic m R p)[j]?=some (.val v)→us[i*8+j]'(hin j hj)=v:=fun j v hj hc=>by
   have:=h2.2 j (.val v) (us[i*8+j]'(hin j hj)) hc (by rw [hg j hj,List.getElem?_eq_getElem (hin j hj)])
   generalize us[i*8+j]'(hin j hj)=u at this
   cases this;rfl
  have hV:∀j (hj:j+2<8),kC ks us p j=us[i*8+(j+2)]'(hin _ hj):=fun j hj=>by
   unfold kC
   rw [if_pos hm,hx,List.getElem?_eq_getElem (hin _ hj)];rfl
  apply List.ext_getElem?
  intro j
  by_cases hj:j<8
  ·rw [hg j hj,List.getElem?_eq_getElem (hin j hj)]
   match j,hj with
   | 0,_=>rw [hval 0 (.int .u32 p.1) (by omega) rfl];rfl
   | 1,_=>rw [hval 1 (.int .i64 p.2) (by omega) rfl];rfl
   | 2,_=>rw [←hV 0 (by omega)];rfl
   | 3,_=>rw [←hV 1 (by omega)];rfl
   | 4,_=>rw [←hV 2 (by omega)];rfl
   | 5,_=>rw [←hV 3 (by omega)];rfl
   | 6,_=>rw [←hV 4 (by omega)];rfl
   | 7,_=>rw [←hV 5 (by omega)];rfl
  ·rw [List.getElem?_eq_none (by omega),List.getElem?_eq_none (by show 8≤j;omega)]
 exact ⟨hu▸h2,hu⟩
theorem zp {enc:Px→List Value}:∀(ks:List Px) (us:List Value),(∀i p,ks[i]?=some p→(us.drop (i*8)).take 8=enc p)→us.take (ks.length*8)=ks.flatMap enc
 | [],us,_=>by simp
 | a::l,us,h=>by
  rw [List.flatMap_cons,←h 0 a rfl,←zp l (us.drop 8) (fun i p hp=>by
   have:=h (i+1) p (by simpa using hp)
   rw [show (i+1)*8=8+i*8 by omega] at this
   rw [List.drop_drop];exact this)]
  rw [List.length_cons,show (l.length+1)*8=8+l.length*8 by omega,List.take_add];rfl
theorem DD {G:aK} (m:Nat) (R:Px→AtV × Bool) (ks:List Px) (hn:ks.Nodup) (hl:ks.length<4611686018427387904):VCx Tryz.prog G 0 xt [.row 8 0 0 ks.length, .fn (.func 28) [] []] ⟨[.row (ks.map (ic m R)).flatten], []⟩ fun x T' =>x= .val (.tuple #[])∧T' =⟨[.row ((gz ks).map (ic m R)).flatten], []⟩:=by
 rw [←List.flatMap_def,←List.flatMap_def]
 intro g w us r hG hx
 match us,hx.1 with
 | [u,f],_=>
  obtain ⟨b,c,f1,f2,f3,f4,f5,rfl⟩:=(hx.2 0 _ u rfl rfl).row_inv
  obtain ⟨us,vs,rfl,h3,h4⟩:=(hx.2 1 _ f rfl rfl).fn_inv
  have e3:us= []:=List.eq_nil_of_length_eq_zero h3.1
  have e4:vs= []:=List.eq_nil_of_length_eq_zero h4.1
  subst e3 e4
  obtain ⟨b',q1,⟨us,ty,q2,q3,q4,q5⟩,_⟩:=r.obj 0 _ rfl rfl
  rw [f1] at q1;injection q1 with q1;subst q1
  have hfix:∀(T' :VT) (w' :World),T'.objs.length=1→Fix 0 g ⟨[.row (ks.flatMap (ic m R))], []⟩ w T' w' :=fun T' w' h=>⟨by simp [h],fun i hi=>absurd hi (Nat.not_lt_zero i),fun i o b hi=>absurd hi (Nat.not_lt_zero i)⟩
  rcases Nat.eq_zero_or_pos ks.length with h0 | hpos
  ·have:ks= []:=List.eq_nil_of_length_eq_zero h0
   subst this
   refine (AnyF.slices_SortFunc_none Tryz.sortCh (some ⟨b,0*8,none⟩) c _ w).mono fun e w' ⟨he,hw⟩=> ?_
   subst hw
   exact ⟨.tuple #[],_,g,_,he,⟨rfl,by simp [gz]⟩,Evo.refl _ _,r, .val _,hfix _ _ rfl⟩
  ·have hcs:=bo q2
   rw [List.size_toArray] at hcs
   have hul:us.length=c*8:=by rw [←hcs,←f5];omega
   have hlen:(ks.flatMap (ic m R)).length=ks.length*8:=oG (ic m R) 8 (pI m R) ks
   rw [hlen] at q3 q4 q5
   have hrow:=fun i p (hp:ks[i]?=some p)=>K3 (m:=m) (R:=R) hn q3 q4 hp
   have htk:us.take (ks.length*8)=ks.flatMap (lm (kC ks us)):=zp ks us fun i p hp=>(hrow i p hp).2
   have hone:∀x,∀v∈lm (kC ks us) x,v.oneCell' =true:=fun x v hv=>by
    by_cases hm:x∈ks
    ·refine q5 v ?_
     rw [htk]
     exact List.mem_flatMap.2 ⟨x,hm,hv⟩
    ·simp only [lm,kC,if_neg hm,List.mem_cons,List.not_mem_nil,or_false] at hv
     rcases hv with rfl | rfl | rfl | rfl | rfl | rfl | rfl | rfl<;>rfl
   have hown:w.ownsRow 0 ty 8 (.slice (some ⟨b,0,none⟩) ks.toArray.size c) ks.toArray.size (ks.toArray.toList.flatMap (lm (kC ks us))):=by
    refine ⟨by simp [qN (lm (kC ks us)) 8 (mr _)], .inr ⟨b,c,us.toArray,by simp,Nat.zero_le _,q2,by simpa using f3,f4,by simpa using hul, ?_⟩⟩
    simpa [qN (lm (kC ks us)) 8 (mr _)] using htk
   obtain ⟨g',cap',hv,hb',hg',hH⟩:=CT (lm (kC ks us)) 8 (mr _) ks.toArray hown (by simpa using hpos)
   injection hv with p1 _ p3
   injection p1 with p1;injection p1 with p1
   subst p1 p3
   have hs:ks.toArray.size<4611686018427387904:=by simpa using hl
   have eg:∀args w,(callFunc 28 args).run Tryz.prog w= .ok (.enter 28 args) w:=enters_of Tryz.func28 (by kernel_rfl) rfl
   have hcon:=AnyQ.slices_SortFunc_total Tryz.sortCh 8 Tryz.isAgg51 Tryz.sizeOf51 (lm (kC ks us)) (mr _) hone ll KY 28 #[] b 0 c ks.toArray w eg (Nw (kC ks us) b 0 _ w) hH hg' hs FA
   refine Calls.mono hcon fun _ _ ⟨he,n,os,hw⟩=> ?_
   obtain ⟨e1,r1⟩:=CU (ic m R) (lm (kC ks us)) 8 (pI m R) (mr _) hone (l:=ks) (l' :=gz ks) (List.mergeSort_perm _ _) r rfl f1 (fun p hm=>by
    obtain ⟨i,hi,hp⟩:=List.getElem_of_mem hm
    exact (hrow i p (by rw [List.getElem?_eq_getElem hi,hp])).1) hw
   exact ⟨.tuple #[],_,g,_,he,⟨rfl,rfl⟩,e1,r1, .val _,hfix _ _ rfl⟩
end
--PkC
section
open Go.RowKit

abbrev e6:=12
def K4 (l:List TV) (ok:Bool):Prop:=∃(p:Px) (a:AtV) (g:Bool) (m:Nat),l=u4 p.1 p.2 m a g∧a.p.length≤9223372036854775807∧ok=uX p a g
def Gw (ok:Bool):aM:=fun _ ys T K=>match ys with
 | [.agg l]=>K4 l ok∧K (.val (.bool ok)) T
 | _=>ay 84 default ys
def N6 (T1 T2:VT) (n:Nat):aM:=fun ro ys T K=>((@Eq Nat ro 0)∧(@Eq (List TV) ys [.row 8 1 0 n, .fn (.func 28) [] []])∧(@Eq VT T T1))∧K (.val (.tuple #[])) T2
def K5:aM:=fun ro ys T K=>((@Eq Nat ro 0)∧(@Eq (List TV) ys [.vec 8 [] (.tail 0 0), .fn (.func 28) [] []]))∧K (.val (.tuple #[])) T
def sF:List Nat:= [0,3,12,13,14]
def lq (L:Bs) (tk:Tok) (j:Int):List TV:= [.vec 8 L tk, .map 0, .vec 8 L tk, .val (.int .i64 L.length), .val (.int .i64 j)]
def u6 (lk:kz) (es:jt) (ck:Nat):VT:=⟨[.map kP lk es ck], []⟩
def qj:List Nat:= [3,6,26,27,28]
def fJ (L:Bs) (tk:Tok) (l:Bs) (j:Int):List TV:= [.map 0, .vec 8 l (.tail 0 l.length), .vec 8 L tk, .val (.int .i64 L.length), .val (.int .i64 j)]
def kD (lk:kz) (es:jt) (ck n:Nat):VT:=⟨[.map kP lk es ck], [(n,8,true)]⟩
def lP (lk:kz) (es:jt) (ck n:Nat) (cs:List TV):VT:=⟨[.map kP lk es ck, .row cs], [(n+1,8,false)]⟩
def OO (L:Bs) (tk:Tok) (lk:kz) (es:jt) (ck:Nat) (c0 c2:Code):Nat→Option (br × Code):=bv [(0,bN 54 sF [] (lq L tk 0) (u6 (fun _=>none) [] 0) (fun K=>K .normal (aj 54 sF (lq L tk L.length)) (u6 lk es ck) []),c0),(2,bN 54 qj [(6,8)] (fJ L tk [] 0) (kD lk es ck 0) (fun K=>K .normal (aj 54 qj (fJ L tk [] L.length)) (kD lk es ck 0) []),c2)]
def OP (L:Bs) (tk:Tok) (lk:kz) (es:jt) (ck:Nat) (A:Bs) (c0 c2:Code):Nat→Option (br × Code):=bv [(0,bN 54 sF [] (lq L tk 0) (u6 (fun _=>none) [] 0) (fun K=>K .normal (aj 54 sF (lq L tk L.length)) (u6 lk es ck) []),c0),(2,yT 54 qj [(6,8)] (fJ L tk [] 0) (kD lk es ck 0) (kD lk es ck A.length) 6 0 8 A,c2)]
theorem K6 (L:Bs) (tk:Tok) (lk:kz) (es:jt) (ck:Nat) (Q:TV→VT→Prop):aq Tryz.prog ae (aw [(xt,K5)]) (aA [(999998, .dead,none)]) 300 (OO L tk lk es ck (am Tryz.prog e6 0) (am Tryz.prog e6 2)) 0 e6 [.vec 8 L tk] ⟨[], []⟩ Q=
 ((am Tryz.prog e6 (0:Nat)=am Tryz.prog e6 (0:Nat))∧
 (((@Eq (Option Nat) .none .none)∧
 ((@Eq (Nat) 0 0)∧
 ((@Eq (List Nat) [] [])∧
 (True  ∧
 ((@Eq (VT) ⟨[(.map ⟨true, [(.int .u32),(.int .i64)]⟩ (fun _=> .none) [] 0)], []⟩ ⟨[(.map ⟨true, [(.int .u32),(.int .i64)]⟩ (fun _=> .none) [] 0)], []⟩)∧
 ((@Eq (Bool) true true)∧
 (@Eq (List TV) [(.vec 8 (L) (tk)),(.map 0),(.vec 8 (L) (tk)),(.val (.int .i64 ((↑(List.length L):Int)))),(.val (.int .i64 0))] [(.vec 8 (L) (tk)),(.map 0),(.vec 8 (L) (tk)),(.val (.int .i64 ((↑(List.length L):Int)))),(.val (.int .i64 0))])))))))∧
 ((am Tryz.prog e6 (2:Nat)=am Tryz.prog e6 (2:Nat))∧
 (((@Eq (Option Nat) .none .none)∧
 ((@Eq (Nat) 0 0)∧
 ((@Eq (List Nat) [] [])∧
 (((@Eq (Option TV) (.some (.val (.slice .none 0 0))) (.some (.val (.slice .none 0 0))))∧
 True)∧
 ((@Eq (VT) ⟨[(.map ⟨true, [(.int .u32),(.int .i64)]⟩ (lk) (es) (ck))], [(0,(8,true))]⟩ ⟨[(.map ⟨true, [(.int .u32),(.int .i64)]⟩ (lk) (es) (ck))], [(0,(8,true))]⟩)∧
 ((@Eq (Bool) true true)∧
 (@Eq (List TV) [(.map 0),(.vec 8 [] (.tail 0 0)),(.vec 8 (L) (tk)),(.val (.int .i64 ((↑(List.length L):Int)))),(.val (.int .i64 0))] [(.map 0),(.vec 8 [] (.tail 0 0)),(.vec 8 (L) (tk)),(.val (.int .i64 ((↑(List.length L):Int)))),(.val (.int .i64 0))])))))))∧
 (((@Eq (Nat) 0 0)∧
 (@Eq (List TV) [(.vec 8 [] (.tail 0 0)),(.fn (.func 28) [] [])] [(.vec 8 [] (.tail 0 0)),(.fn (.func 28) [] [])]))∧
 Q (.vec 8 [] (.tail 0 0)) ⟨[(.map ⟨true, [(.int .u32),(.int .i64)]⟩ (lk) (es) (ck))], [(0,(8,true))]⟩))))):=by kernel_rfl
theorem K7 (L A B:Bs) (tk:Tok) (lk:kz) (es:jt) (ck:Nat) (Q:TV→VT→Prop):aq Tryz.prog ae (aw [(xt,N6 (lP lk es ck A.length A.flatten) (lP lk es ck A.length B.flatten) A.length)]) (aA [(999998, .dead,none)]) 300 (OP L tk lk es ck A (am Tryz.prog e6 0) (am Tryz.prog e6 2)) 0 e6 [.vec 8 L tk] ⟨[], []⟩ Q=
 ((am Tryz.prog e6 (0:Nat)=am Tryz.prog e6 (0:Nat))∧
 (((@Eq (Option Nat) .none .none)∧
 ((@Eq (Nat) 0 0)∧
 ((@Eq (List Nat) [] [])∧
 (True  ∧
 ((@Eq (VT) ⟨[(.map ⟨true, [(.int .u32),(.int .i64)]⟩ (fun _=> .none) [] 0)], []⟩ ⟨[(.map ⟨true, [(.int .u32),(.int .i64)]⟩ (fun _=> .none) [] 0)], []⟩)∧
 ((@Eq (Bool) true true)∧
 (@Eq (List TV) [(.vec 8 (L) (tk)),(.map 0),(.vec 8 (L) (tk)),(.val (.int .i64 ((↑(List.length L):Int)))),(.val (.int .i64 0))] [(.vec 8 (L) (tk)),(.map 0),(.vec 8 (L) (tk)),(.val (.int .i64 ((↑(List.length L):Int)))),(.val (.int .i64 0))])))))))∧
 ((am Tryz.prog e6 (2:Nat)=am Tryz.prog e6 (2:Nat))∧
 (((@Eq (Option Nat) .none .none)∧
 ((@Eq (Nat) 0 0)∧
 ((@Eq (List Nat) [] [])∧
 (((@Eq (Option TV) (.some (.val (.slice .none 0 0))) (.some (.val (.slice .none 0 0))))∧
 True)∧
 ((@Eq (VT) ⟨[(.map ⟨true, [(.int .u32),(.int .i64)]⟩ (lk) (es) (ck))], [(0,(8,true))]⟩ ⟨[(.map ⟨true, [(.int .u32),(.int .i64)]⟩ (lk) (es) (ck))], [(0,(8,true))]⟩)∧
 ((@Eq (Bool) true true)∧
 ((@Eq (List TV) [(.map 0),(.vec 8 [] (.tail 0 0)),(.vec 8 (L) (tk)),(.val (.int .i64 ((↑(List.length L):Int)))),(.val (.int .i64 0))] [(.map 0),(.vec 8 [] (.tail 0 0)),(.vec 8 (L) (tk)),(.val (.int .i64 ((↑(List.length L):Int)))),(.val (.int .i64 0))])∧
 (@Eq (Bool) true true))))))))∧
 (((@Eq (Nat) 0 0)∧
 ((@Eq (List TV) [(.row 8 1 0 (List.length A)),(.fn (.func 28) [] [])] [(.row 8 1 0 (List.length A)),(.fn (.func 28) [] [])])∧
 (@Eq (VT) ⟨[(.map ⟨true, [(.int .u32),(.int .i64)]⟩ (lk) (es) (ck)),(.row (List.flatten A))], [((List.length A+(1:Nat)),(8,false))]⟩ ⟨[(.map ⟨true, [(.int .u32),(.int .i64)]⟩ (lk) (es) (ck)),(.row (List.flatten A))], [((List.length A+(1:Nat)),(8,false))]⟩)))∧
 Q (.row 8 1 0 (List.length A)) ⟨[(.map ⟨true, [(.int .u32),(.int .i64)]⟩ (lk) (es) (ck)),(.row (List.flatten B))], [((List.length A+(1:Nat)),(8,false))]⟩))))):=by kernel_rfl
theorem DE (L:Bs) (tk:Tok) (lk:kz) (es:jt) (ck:Nat) (a n:Int) (m:Nat) (x:AtV) (g ok:Bool) (j:Nat) (Q:Exit→List TV→VT→List Nat→Nat→Prop):vx Tryz.prog ae (aw [(Dw,Gw ok)]) (aA [(999998, .dead,none),(17, .elt (u4 a n m x g),none)]) 300 aD none 0 (bd Tryz.prog e6 0) (aj 54 sF (lq L tk j)) (u6 lk es ck) [] (bA sF Q)=
 (bif decide ((↑j:Int)<(↑(List.length L):Int))
 then (ax Tryz.prog (fun _=> .none) (.indexAddr 22 (.tmp 12) (.tmp 14)) [(12,(.vec 8 (L) (tk))),(14,(.val (.int .i64 ((↑j:Int)))))] (.elt [(.val (.int .u32 (a))),(.val (.int .i64 (n))),(.val (.int .i64 (AtV.o x))),(.vec 1 (iV (AtV.p x)) (.arg (m))),(.val (.int .u32 (AtV.h x))),(.val (.int .i64 (AtV.m x))),(.val (.bool (AtV.hm x))),(.val (.bool (g)))])∧
 (K4 [(.val (.int .u32 (a))),(.val (.int .i64 (n))),(.val (.int .i64 (AtV.o x))),(.vec 1 (iV (AtV.p x)) (.arg (m))),(.val (.int .u32 (AtV.h x))),(.val (.int .i64 (AtV.m x))),(.val (.bool (AtV.hm x))),(.val (.bool (g)))] (ok)∧
 (bif ok
 then Q .normal [(.vec 8 (L) (tk)),(.map 0),(.vec 8 (L) (tk)),(.val (.int .i64 ((↑(List.length L):Int)))),(.val (.int .i64 (IntKind.wrap IntKind.i64 ((↑j:Int)+(1:Int)))))] ⟨[(.map ⟨true, [(.int .u32),(.int .i64)]⟩ (fun kk=>(bif ar ((fun vs=>Value.agg (List.toArray vs)) ((fun x=>Value.int IntKind.u32 a::x) ((fun x=>Value.int IntKind.i64 n::x) []))) kk then (.some (.val (.int .i64 ((↑j:Int))))) else (lk kk))) (cT (.agg #[(.int .u32 (a)),(.int .i64 (n))]) (.val (.int .i64 ((↑j:Int)))) (ck) (es)) (match lk ((fun vs=>Value.agg (List.toArray vs)) ((fun x=>Value.int IntKind.u32 a::x) ((fun x=>Value.int IntKind.i64 n::x) []))) with
| some val=>ck
| none=>ck+(1:Nat))),(.cells [(.val (.int .u32 (a))),(.val (.int .i64 (n))),(.val (.int .i64 (AtV.o x))),(.vec 1 (iV (AtV.p x)) (.arg (m))),(.val (.int .u32 (AtV.h x))),(.val (.int .i64 (AtV.m x))),(.val (.bool (AtV.hm x))),(.val (.bool (g)))])], []⟩ [] 54
 else Q .normal [(.vec 8 (L) (tk)),(.map 0),(.vec 8 (L) (tk)),(.val (.int .i64 ((↑(List.length L):Int)))),(.val (.int .i64 (IntKind.wrap IntKind.i64 ((↑j:Int)+(1:Int)))))] ⟨[(.map ⟨true, [(.int .u32),(.int .i64)]⟩ (lk) (es) (ck)),(.cells [(.val (.int .u32 (a))),(.val (.int .i64 (n))),(.val (.int .i64 (AtV.o x))),(.vec 1 (iV (AtV.p x)) (.arg (m))),(.val (.int .u32 (AtV.h x))),(.val (.int .i64 (AtV.m x))),(.val (.bool (AtV.hm x))),(.val (.bool (g)))])], []⟩ [] 54)))
 else Q (.exit 0) [(.vec 8 (L) (tk)),(.map 0),(.vec 8 (L) (tk)),(.val (.int .i64 ((↑(List.length L):Int)))),(.val (.int .i64 ((↑j:Int))))] ⟨[(.map ⟨true, [(.int .u32),(.int .i64)]⟩ (lk) (es) (ck))], []⟩ [] 54):=by kernel_rfl
theorem DF (L l l2:Bs) (tk:Tok) (lk:kz) (es:jt) (ck:Nat) (a n i:Int) (m n2:Nat) (x:AtV) (g b:Bool) (j:Nat) (tl2:eo) (Q:Exit→List TV→VT→List Nat→Nat→Prop):vx Tryz.prog ae aR (aA [(999998, .dead,none),(31, .elt (u4 a n m x g),none),(37, .tup [.val (.int .i64 i), .val (.bool b)],some fun T=>T),(49, .vec 8 l2 (.tail 0 n2),some fun T=>{T with tails:=tl2})]) 300 aD none 0 (bd Tryz.prog e6 2) (aj 54 qj (fJ L tk l j)) (kD lk es ck l.length) [] (bA qj Q)=
 (bif decide ((↑j:Int)<(↑(List.length L):Int))
 then (ax Tryz.prog (fun _=> .none) (.indexAddr 22 (.tmp 26) (.tmp 28)) [(26,(.vec 8 (L) (tk))),(28,(.val (.int .i64 ((↑j:Int)))))] (.elt [(.val (.int .u32 (a))),(.val (.int .i64 (n))),(.val (.int .i64 (AtV.o x))),(.vec 1 (iV (AtV.p x)) (.arg (m))),(.val (.int .u32 (AtV.h x))),(.val (.int .i64 (AtV.m x))),(.val (.bool (AtV.hm x))),(.val (.bool (g)))])∧
 (aB Tryz.prog (fun _=> .none) 0 ⟨[(.map ⟨true, [(.int .u32),(.int .i64)]⟩ (lk) (es) (ck)),(.cells [(.val (.int .u32 (a))),(.val (.int .i64 (n))),(.val (.int .i64 (AtV.o x))),(.vec 1 (iV (AtV.p x)) (.arg (m))),(.val (.int .u32 (AtV.h x))),(.val (.int .i64 (AtV.m x))),(.val (.bool (AtV.hm x))),(.val (.bool (g)))])], [((List.length l),(8,true))]⟩ (.lookup 64 (.tmp 34) (.tmp 36) true) [(34,(.map 0)),(36,(.agg [(.val (.int .u32 (a))),(.val (.int .i64 (n)))]))] (.tup [(.val (.int .i64 (i))),(.val (.bool (b)))]) ⟨[(.map ⟨true, [(.int .u32),(.int .i64)]⟩ (lk) (es) (ck)),(.cells [(.val (.int .u32 (a))),(.val (.int .i64 (n))),(.val (.int .i64 (AtV.o x))),(.vec 1 (iV (AtV.p x)) (.arg (m))),(.val (.int .u32 (AtV.h x))),(.val (.int .i64 (AtV.m x))),(.val (.bool (AtV.hm x))),(.val (.bool (g)))])], [((List.length l),(8,true))]⟩∧
 (bif b
 then (bif aG BinOp.eql (ar (Value.int IntKind.i64 i) (Value.int IntKind.i64 (↑j:Int)))
 then (aB Tryz.prog (fun _=> .none) 0 ⟨[(.map ⟨true, [(.int .u32),(.int .i64)]⟩ (lk) (es) (ck)),(.cells [(.val (.int .u32 (a))),(.val (.int .i64 (n))),(.val (.int .i64 (AtV.o x))),(.vec 1 (iV (AtV.p x)) (.arg (m))),(.val (.int .u32 (AtV.h x))),(.val (.int .i64 (AtV.m x))),(.val (.bool (AtV.hm x))),(.val (.bool (g)))])], [((List.length l),(8,true))]⟩ (.call ⟨(.builtin .append), #[(.tmp 46),(.tmp 48)], #[22,22]⟩) [(46,(.vec 8 (l) (.tail 0 (List.length l)))),(48,(.vec 8 [[(.val (.int .u32 (a))),(.val (.int .i64 (n))),(.val (.int .i64 (AtV.o x))),(.vec 1 (iV (AtV.p x)) (.arg (m))),(.val (.int .u32 (AtV.h x))),(.val (.int .i64 (AtV.m x))),(.val (.bool (AtV.hm x))),(.val (.bool (g)))]] .full))] (.vec 8 (l2) (.tail 0 (n2))) ⟨[(.map ⟨true, [(.int .u32),(.int .i64)]⟩ (lk) (es) (ck)),(.cells [(.val (.int .u32 (a))),(.val (.int .i64 (n))),(.val (.int .i64 (AtV.o x))),(.vec 1 (iV (AtV.p x)) (.arg (m))),(.val (.int .u32 (AtV.h x))),(.val (.int .i64 (AtV.m x))),(.val (.bool (AtV.hm x))),(.val (.bool (g)))])],(tl2)⟩∧
 Q .normal [(.map 0),(.vec 8 (l2) (.tail 0 (n2))),(.vec 8 (L) (tk)),(.val (.int .i64 ((↑(List.length L):Int)))),(.val (.int .i64 (IntKind.wrap IntKind.i64 ((↑j:Int)+(1:Int)))))] ⟨[(.map ⟨true, [(.int .u32),(.int .i64)]⟩ (lk) (es) (ck)),(.cells [(.val (.int .u32 (a))),(.val (.int .i64 (n))),(.val (.int .i64 (AtV.o x))),(.vec 1 (iV (AtV.p x)) (.arg (m))),(.val (.int .u32 (AtV.h x))),(.val (.int .i64 (AtV.m x))),(.val (.bool (AtV.hm x))),(.val (.bool (g)))])],(tl2)⟩ [] 54)
 else Q .normal [(.map 0),(.vec 8 (l) (.tail 0 (List.length l))),(.vec 8 (L) (tk)),(.val (.int .i64 ((↑(List.length L):Int)))),(.val (.int .i64 (IntKind.wrap IntKind.i64 ((↑j:Int)+(1:Int)))))] ⟨[(.map ⟨true, [(.int .u32),(.int .i64)]⟩ (lk) (es) (ck)),(.cells [(.val (.int .u32 (a))),(.val (.int .i64 (n))),(.val (.int .i64 (AtV.o x))),(.vec 1 (iV (AtV.p x)) (.arg (m))),(.val (.int .u32 (AtV.h x))),(.val (.int .i64 (AtV.m x))),(.val (.bool (AtV.hm x))),(.val (.bool (g)))])], [((List.length l),(8,true))]⟩ [] 54)
 else Q .normal [(.map 0),(.vec 8 (l) (.tail 0 (List.length l))),(.vec 8 (L) (tk)),(.val (.int .i64 ((↑(List.length L):Int)))),(.val (.int .i64 (IntKind.wrap IntKind.i64 ((↑j:Int)+(1:Int)))))] ⟨[(.map ⟨true, [(.int .u32),(.int .i64)]⟩ (lk) (es) (ck)),(.cells [(.val (.int .u32 (a))),(.val (.int .i64 (n))),(.val (.int .i64 (AtV.o x))),(.vec 1 (iV (AtV.p x)) (.arg (m))),(.val (.int .u32 (AtV.h x))),(.val (.int .i64 (AtV.m x))),(.val (.bool (AtV.hm x))),(.val (.bool (g)))])], [((List.length l),(8,true))]⟩ [] 54)))
 else Q (.exit 2) [(.map 0),(.vec 8 (l) (.tail 0 (List.length l))),(.vec 8 (L) (tk)),(.val (.int .i64 ((↑(List.length L):Int)))),(.val (.int .i64 ((↑j:Int))))] ⟨[(.map ⟨true, [(.int .u32),(.int .i64)]⟩ (lk) (es) (ck))], [((List.length l),(8,true))]⟩ [] 54):=by kernel_rfl
end
--PkD
section
open Go.RowKit
set_option maxRecDepth 100000

theorem DG (p:Px) (m:Nat) (a:AtV) (g:Bool):TVleL (u4 p.1 p.2 m a g) (az p.1 p.2 a g):=⟨.refl _, .refl _, .refl _, .vec 1 _ _, .refl _, .refl _, .refl _, .refl _,trivial⟩
theorem K8 (ok:Bool):∀ro ys T K,Gw ok ro ys T K→VCx Tryz.prog ae ro Dw ys T K:=by
 intro ro ys T K hw
 unfold Gw at hw
 split at hw
 ·obtain ⟨⟨p,a,g,m,rfl,ha,rfl⟩,hk⟩:=hw
  refine VCx.argsLe (xs:= [.agg (az p.1 p.2 a g)]) ⟨.agg (DG p m a g),trivial⟩ ?_
  refine VCx.liftPure ap (Dx p g ha) ?_ (fun _ _=>rfl) hk
  simp only [av,TV.ren,AtV.cells,dw,Tok.ren,az,List.cons_append,List.nil_append]
 ·exact hw.elim
end
--PkE
section
open Go.RowKit
set_option maxRecDepth 100000

abbrev Ch:=Px × AtV × Bool
def cC (c:Ch):Bool:=uX c.1 c.2.1 c.2.2
def aX (m:Nat) (c:Ch):List TV:=u4 c.1.1 c.1.2 m c.2.1 c.2.2
theorem oT:RowI Tryz.prog 22 51 8:=⟨Tryz.underlying22,⟨(Tryz.prog.info? 51).getD default,((Tryz.prog.info? 51).getD default).zero.getD default,by kernel_rfl,by kernel_rfl,Nat.le_of_ble_eq_true (by kernel_rfl),by kernel_rfl,by kernel_rfl⟩,by omega⟩
theorem If (m:Nat) (c:Ch) (f g:Nat→Option Nat):av f g (aX m c)=aX m c:=by
 simp only [aX,u4,av,TV.ren,dw,Tok.ren]
theorem nc (m:Nat) (f g:Nat→Option Nat) (cs:List Ch):bG f g (cs.map (aX m))=cs.map (aX m):=fT (aX m) (fun a=>If m a f g) cs
def e7 (cs:List Ch):Nat→Px→Option Nat
 | 0,_=>none
 | j+1,p=>match cs[j]? with
  | some c=>bif cC c&&decide (c.1=p) then some j else e7 cs j p
  | none=>e7 cs j p
theorem qX {cs:List Ch} {j:Nat} {c:Ch} (h:cs[j]?=some c) (p:Px):e7 cs (j+1) p=bif cC c&&decide (c.1=p) then some j else e7 cs j p:=by
 simp only [e7,h]
theorem oU {cs:List Ch} {p:Px} {i:Nat}:∀{j:Nat},e7 cs j p=some i→i<j∧∃c,cs[i]?=some c∧cC c=true∧c.1=p
 | 0,h=>by cases h
 | j+1,h=>by
  cases hc:cs[j]? with
  | none=>
   simp only [e7,hc] at h
   obtain ⟨h1,h2⟩:=oU h
   exact ⟨by omega,h2⟩
  | some c=>
   rw [qX hc] at h
   cases hb:cC c&&decide (c.1=p) with
   | true=>
    rw [hb,cond_true] at h
    injection h with h;subst h
    simp only [Bool.and_eq_true,decide_eq_true_eq] at hb
    exact ⟨by omega,c,hc,hb.1,hb.2⟩
   | false=>
    rw [hb,cond_false] at h
    obtain ⟨h1,h2⟩:=oU h
    exact ⟨by omega,h2⟩
def bk (cs:List Ch):Nat→kz × jt × Nat
 | 0=>(fun _=>none, [],0)
 | j+1=>match cs[j]? with
  | some c=>bif cC c then ((fun kk=>bif ar (dz c.1) kk then some (.val (.int .i64 (j:Int))) else (bk cs j).1 kk),cT (dz c.1) (.val (.int .i64 (j:Int))) (bk cs j).2.2 (bk cs j).2.1,match (bk cs j).1 (dz c.1) with
   | some _=>(bk cs j).2.2
   | none=>(bk cs j).2.2+1) else bk cs j
  | none=>bk cs j
def xu (cs:List Ch) (j:Nat):VT:=u6 (bk cs j).1 (bk cs j).2.1 (bk cs j).2.2
theorem qY {cs:List Ch} {j:Nat} {c:Ch} (h:cs[j]?=some c) (hg:cC c=true):bk cs (j+1)=((fun kk=>bif ar (dz c.1) kk then some (.val (.int .i64 (j:Int))) else (bk cs j).1 kk),cT (dz c.1) (.val (.int .i64 (j:Int))) (bk cs j).2.2 (bk cs j).2.1,match (bk cs j).1 (dz c.1) with
   | some _=>(bk cs j).2.2
   | none=>(bk cs j).2.2+1):=by
 simp only [bk,h,hg,cond_true]
theorem tS {cs:List Ch} {j:Nat} {c:Ch} (h:cs[j]?=some c) (hg:cC c=false):bk cs (j+1)=bk cs j:=by
 simp only [bk,h,hg,cond_false]
theorem xv {cs:List Ch} {j:Nat} (h:cs[j]?=none):bk cs (j+1)=bk cs j:=by
 simp only [bk,h]
theorem oV {cs:List Ch} (p:Px):∀j,(bk cs j).1 (dz p)=(e7 cs j p).map fun i=> .val (.int .i64 (i:Int))
 | 0=>rfl
 | j+1=>by
  cases hc:cs[j]? with
  | none=>simp only [xv hc,e7,hc];exact oV p j
  | some c=>
   rw [qX hc]
   cases hg:cC c with
   | false=>rw [tS hc hg];exact oV p j
   | true=>
    rw [qY hc hg]
    show (bif ar (dz c.1) (dz p) then _ else _)=_
    rw [K0]
    cases hd:decide (c.1=p) with
    | true=>rfl
    | false=>exact oV p j
theorem xw {Q:TV→Prop} {k:Value} {v:TV} {ck:Nat} (hv:Q v):∀{es:jt},(∀e∈es,Q e.2.1)→∀e∈cT k v ck es,Q e.2.1
 | [],_,e,he=>by
  simp only [cT,List.mem_singleton] at he
  subst he;exact hv
 | a::es,h,e,he=>by
  unfold cT at he
  cases hk:ar k a.1 with
  | true=>
   rw [hk,cond_true] at he
   rcases List.mem_cons.1 he with rfl | he
   ·exact hv
   ·exact h e (List.mem_cons_of_mem _ he)
  | false=>
   rw [hk,cond_false] at he
   rcases List.mem_cons.1 he with rfl | he
   ·exact h _ List.mem_cons_self
   ·exact xw hv (fun e he=>h e (List.mem_cons_of_mem _ he)) e he
theorem tT {cs:List Ch}:∀j,(∀k x,(bk cs j).1 k=some x→∃v,x= .val v)∧∀e∈(bk cs j).2.1,∃v,e.2.1= .val v
 | 0=>⟨fun _ _ h=>by simp [bk] at h,fun _ h=>by simp [bk] at h⟩
 | j+1=>by
  obtain ⟨h1,h2⟩:=tT (cs:=cs) j
  cases hc:cs[j]? with
  | none=>rw [xv hc];exact ⟨h1,h2⟩
  | some c=>
   cases hg:cC c with
   | false=>rw [tS hc hg];exact ⟨h1,h2⟩
   | true=>
    rw [qY hc hg]
    refine ⟨fun k x h=> ?_,xw (Q:=fun x=>∃v,x= .val v) ⟨_,rfl⟩ h2⟩
    simp only at h
    cases hk:ar (dz c.1) k with
    | true=>rw [hk,cond_true] at h;injection h with h;exact ⟨_,h.symm⟩
    | false=>rw [hk,cond_false] at h;exact h1 k x h
theorem tU (cs:List Ch) (j:Nat) (f g:Nat→Option Nat):VO.ren f g (.map kP (bk cs j).1 (bk cs j).2.1 (bk cs j).2.2)= .map kP (bk cs j).1 (bk cs j).2.1 (bk cs j).2.2:=by
 obtain ⟨v1,v2⟩:=tT (cs:=cs) j
 have h1:(fun k=>((bk cs j).1 k).map (TV.ren f g))=(bk cs j).1:=by
  funext k
  cases hk:(bk cs j).1 k with
  | none=>rfl
  | some x=>obtain ⟨v,rfl⟩:=v1 k x hk;rfl
 have h2:(bk cs j).2.1.map (fun e=>(e.1,e.2.1.ren f g,e.2.2))=(bk cs j).2.1:=by
  conv=>rhs;rw [←List.map_id (bk cs j).2.1]
  refine List.map_congr_left fun e he=> ?_
  obtain ⟨v,h2⟩:=v2 e he
  rw [h2];simp only [TV.ren];rw [←h2];rfl
 simp only [VO.ren,h1,h2]
theorem zq (cs:List Ch) (j:Nat) (o:List VO):VT.keep ⟨.map kP (bk cs j).1 (bk cs j).2.1 (bk cs j).2.2::o, []⟩ 1 0=xu cs j:=by
 have e:=tU cs j (au 1) (au 0)
 simp only [VT.keep,List.take_succ_cons,List.take_zero,List.map_cons,List.map_nil,e,xu,u6]
theorem zr (cs:List Ch) (j n:Nat) (o:List VO):VT.keep ⟨.map kP (bk cs j).1 (bk cs j).2.1 (bk cs j).2.2::o, [(n,8,true)]⟩ 1 1=kD (bk cs j).1 (bk cs j).2.1 (bk cs j).2.2 n:=by
 have e:=tU cs j (au 1) (au 1)
 simp only [VT.keep,List.take_succ_cons,List.take_zero,List.map_cons,List.map_nil,e,kD]
theorem Gx (ok:Bool):aQ Tryz.prog ae (aw [(Dw,Gw ok)]):=aE fun p hp=>by obtain rfl:=List.mem_singleton.1 hp;exact K8 ok
theorem Ig {cs:List Ch} (hl:cs.length≤1000000) (hp:∀c∈cs,c.2.1.p.length≤9223372036854775807) (m:Nat) (K:KX) (hK:K .normal (aj 54 sF (lq (cs.map (aX m)) (.arg m) ((cs.map (aX m)).length:Nat))) (xu cs cs.length) []):
    VWx Tryz.prog ae none 0 (am Tryz.prog e6 0) (aj 54 sF (lq (cs.map (aX m)) (.arg m) 0)) (u6 (fun _=>none) [] 0) [] K:=by
  have hlen:(cs.map (aX m)).length=cs.length:=List.length_map _
  refine bK (f:=e6) (id:=0) (by kernel_rfl) 54 sF (fun j:Nat=>cs.length-j) (fun j:Nat=>lq (cs.map (aX m)) (.arg m) (j:Int)) (fun j=>xu cs j) (fun j=>j≤cs.length) 1 0 (fun j _=>⟨Nat.le_refl _,Nat.le_refl _⟩)
    (fun e vs T=>e= .normal∧vs=lq (cs.map (aX m)) (.arg m) ((cs.map (aX m)).length:Nat)∧T=xu cs cs.length) (fun j hj=> ?_) 0 (Nat.zero_le _) K ?_
  rotate_left
  · rintro e vs T ⟨rfl,rfl,rfl⟩
    exact hK
  by_cases hlt:j<cs.length
  · have hr:=List.getElem?_eq_getElem hlt
    have hm:cs[j]∈cs:=List.getElem_mem hlt
    generalize cs[j]=c at hr hm
    refine aI ac aa (Gx (cC c)) ah (DE (cs.map (aX m)) (.arg m) (bk cs j).1 (bk cs j).2.1 (bk cs j).2.2 c.1.1 c.1.2 m c.2.1 c.2.2 (cC c) j _) ?_
    refine aN (decide_eq_true (by rw [hlen];omega)) ⟨oT.ix rfl (by simp [hr];rfl),⟨c.1,c.2.1,c.2.2,m,rfl,hp c hm,rfl⟩, ?_⟩
    rw [cf (by omega)]
    have hv:av (au 1) (au 0) (lq (cs.map (aX m)) (.arg m) ((j+1:Nat):Int))=lq (cs.map (aX m)) (.arg m) ((j+1:Nat):Int):=by
      simp only [lq,av,TV.ren,nc,Tok.ren];rfl
    refine aF (fun hg=> ?_) (fun hg=> ?_)
    · refine ⟨rfl,rfl,j+1,hlt,by show cs.length-(j+1)<cs.length-j;omega, .inr ⟨?_,hv⟩⟩
      have k:=fun o=>zq cs (j+1) o
      rw [qY hr hg] at k
      exact k _
    · refine ⟨rfl,rfl,j+1,hlt,by show cs.length-(j+1)<cs.length-j;omega, .inr ⟨?_,hv⟩⟩
      have k:=fun o=>zq cs (j+1) o
      rw [tS hr hg] at k
      exact k _
  · obtain rfl:j=cs.length:=by omega
    refine aI ac aa (Gx true) ah (DE (cs.map (aX m)) (.arg m) (bk cs cs.length).1 (bk cs cs.length).2.1 (bk cs cs.length).2.2 0 0 m bm true true cs.length _) (aH (decide_eq_false (by rw [hlen];omega)) ?_)
    exact ⟨rfl,rfl,rfl,by simp only [lq,fJ,hlen],rfl⟩
def aJ (cs:List Ch):Nat→List Ch
 | 0=> []
 | j+1=>match cs[j]? with
  | some c=>bif decide (e7 cs cs.length c.1=some j) then aJ cs j++ [c] else aJ cs j
  | none=>aJ cs j
theorem mt {cs:List Ch} {j:Nat} {c:Ch} (h:cs[j]?=some c):aJ cs (j+1)=bif decide (e7 cs cs.length c.1=some j) then aJ cs j++ [c] else aJ cs j:=by
 simp only [aJ,h]
theorem sG {cs:List Ch}:∀j,(aJ cs j).length≤j
 | 0=>Nat.le_refl _
 | j+1=>by
  have:=sG (cs:=cs) j
  cases hc:cs[j]? with
  | none=>simp only [aJ,hc];omega
  | some c=>
   rw [mt hc]
   cases decide (e7 cs cs.length c.1=some j)
   ·simp only [cond_false];omega
   ·simp only [cond_true,List.length_append,List.length_cons,List.length_nil];omega
theorem zt {T:VT} {lk:kz} {es:jt} {ck id:Nat} {p:Px} (hid:T.objs[id]?=some (.map kP lk es ck)) (ok:Bool):dG Tryz.prog T 64 (.map id) (N3 p.1 p.2) ok=some (fV ok (lk (dz p)) (.int .i64 0)):=by
 have h:∀o:Option VO,o=some (.map kP lk es ck)→(match Tryz.prog.underlying 64,ce (N3 p.1 p.2) with
   | some (.map kt et),some kv=>match df Tryz.prog kt,Tryz.prog.info? et with
    | some sh,some i=>match i.zero with
     | some zz=>bif sh.fits kv then (match o with
       | some (.map sh' look _ _)=>bif j3 sh sh' then some (fV ok (look kv) zz) else none
       | _=>none) else none
     | none=>none
    | _,_=>none
   | _,_=>none)=some (fV ok (lk (dz p)) (.int .i64 0)):=by
  rintro _ rfl
  kernel_rfl
 exact h _ hid
theorem Ih {cs:List Ch} (hl:cs.length≤1000000) (m:Nat) (K:KX) (hK:K .normal (aj 54 qj (fJ (cs.map (aX m)) (.arg m) ((aJ cs cs.length).map (aX m)) ((cs.map (aX m)).length:Nat))) (kD (bk cs cs.length).1 (bk cs cs.length).2.1 (bk cs cs.length).2.2 ((aJ cs cs.length).map (aX m)).length) []):
    VWx Tryz.prog ae none 0 (am Tryz.prog e6 2) (aj 54 qj (fJ (cs.map (aX m)) (.arg m) [] 0)) (kD (bk cs cs.length).1 (bk cs cs.length).2.1 (bk cs cs.length).2.2 0) [] K:=by
  have hlen:(cs.map (aX m)).length=cs.length:=List.length_map _
  refine bK (f:=e6) (id:=2) (by kernel_rfl) 54 qj (fun j:Nat=>cs.length-j) (fun j:Nat=>fJ (cs.map (aX m)) (.arg m) ((aJ cs j).map (aX m)) (j:Int)) (fun j=>kD (bk cs cs.length).1 (bk cs cs.length).2.1 (bk cs cs.length).2.2 ((aJ cs j).map (aX m)).length) (fun j=>j≤cs.length) 1 1 (fun j _=>⟨Nat.le_refl _,Nat.le_refl _⟩)
    (fun e vs T=>e= .normal∧vs=fJ (cs.map (aX m)) (.arg m) ((aJ cs cs.length).map (aX m)) ((cs.map (aX m)).length:Nat)∧T=kD (bk cs cs.length).1 (bk cs cs.length).2.1 (bk cs cs.length).2.2 ((aJ cs cs.length).map (aX m)).length) (fun j hj=> ?_) 0 (Nat.zero_le _) K ?_
  rotate_left
  · rintro e vs T ⟨rfl,rfl,rfl⟩
    exact hK
  by_cases hlt:j<cs.length
  · have hr:=List.getElem?_eq_getElem hlt
    generalize cs[j]=c at hr
    have hln:=sG (cs:=cs) j
    have hlm:((aJ cs j).map (aX m)).length=(aJ cs j).length:=List.length_map _
    refine aI ac aa ai ah (DF (cs.map (aX m)) ((aJ cs j).map (aX m)) ((aJ cs j).map (aX m)++ [aX m c]) (.arg m) (bk cs cs.length).1 (bk cs cs.length).2.1 (bk cs cs.length).2.2 c.1.1 c.1.2 (((e7 cs cs.length c.1).getD 0:Nat):Int) m (((aJ cs j).map (aX m)).length+1) c.2.1 c.2.2 (e7 cs cs.length c.1).isSome j [(((aJ cs j).map (aX m)).length+1,8,true)] _) ?_
    refine aN (decide_eq_true (by rw [hlen];omega)) ⟨oT.ix rfl (by simp [hr];rfl), ?_⟩
    have hv:∀l:List Ch,av (au 1) (au 1) (fJ (cs.map (aX m)) (.arg m) (l.map (aX m)) ((j+1:Nat):Int))=fJ (cs.map (aX m)) (.arg m) (l.map (aX m)) ((j+1:Nat):Int):=fun l=>by
      simp only [fJ,av,TV.ren,nc,Tok.ren];rfl
    have hend:∀o,decide (e7 cs cs.length c.1=some j)=false→m4 54 2 (fun j:Nat=>cs.length-j) (fun j:Nat=>fJ (cs.map (aX m)) (.arg m) ((aJ cs j).map (aX m)) (j:Int)) (fun j=>kD (bk cs cs.length).1 (bk cs cs.length).2.1 (bk cs cs.length).2.2 ((aJ cs j).map (aX m)).length) (fun j=>j≤cs.length) 1 1 j
        (fun e vs T=>e= .normal∧vs=fJ (cs.map (aX m)) (.arg m) ((aJ cs cs.length).map (aX m)) ((cs.map (aX m)).length:Nat)∧T=kD (bk cs cs.length).1 (bk cs cs.length).2.1 (bk cs cs.length).2.2 ((aJ cs cs.length).map (aX m)).length)
        .normal (fJ (cs.map (aX m)) (.arg m) ((aJ cs j).map (aX m)) (IntKind.wrap IntKind.i64 ((j:Int)+1))) ⟨.map kP (bk cs cs.length).1 (bk cs cs.length).2.1 (bk cs cs.length).2.2::o, [(((aJ cs j).map (aX m)).length,8,true)]⟩ [] 54:=fun o hd=>by
      rw [cf (by omega)]
      have e:aJ cs (j+1)=aJ cs j:=by rw [mt hr,hd];rfl
      refine ⟨rfl,rfl,j+1,hlt,by show cs.length-(j+1)<cs.length-j;omega, .inr ⟨?_, ?_⟩⟩
      · show _=kD _ _ _ ((aJ cs (j+1)).map (aX m)).length
        rw [e];exact zr cs _ _ o
      · show _=fJ _ _ ((aJ cs (j+1)).map (aX m)) _
        rw [e];exact hv _
    cases hq:e7 cs cs.length c.1 with
    | none=>
      refine ⟨sE ((zt (T:=⟨[_,_],_⟩) (id:=0) (p:=c.1) rfl true).trans (by rw [oV,hq];rfl)), ?_⟩
      exact hend [_] (by rw [hq];rfl)
    | some i=>
      refine ⟨sE ((zt (T:=⟨[_,_],_⟩) (id:=0) (p:=c.1) rfl true).trans (by rw [oV,hq];rfl)), ?_⟩
      refine aN rfl ?_
      rw [nK]
      refine aF (fun hd=> ?_) (fun hd=> ?_)
      · have hij:i=j:=by have:=of_decide_eq_true hd;simp only [Option.getD_some] at this;omega
        subst hij
        refine ⟨?_, ?_⟩
        · have h:=oT.app (G:=ae) (T:=⟨[.map kP (bk cs cs.length).1 (bk cs cs.length).2.1 (bk cs cs.length).2.2, .cells (aX m c)], [(((aJ cs i).map (aX m)).length,8,true)]⟩) (k:=0) (bn:=true) (es:=(aJ cs i).map (aX m)) (es2:= [aX m c]) (tok:= .full) (s:=46) (x:=48) rfl rfl (by simp only [List.length_map,List.length_cons,List.length_nil];omega)
          exact h
        · rw [cf (by omega)]
          have e:aJ cs (i+1)=aJ cs i++ [c]:=by rw [mt hr,hq];simp
          have e2:(aJ cs (i+1)).map (aX m)=(aJ cs i).map (aX m)++ [aX m c]:=by rw [e,List.map_append];rfl
          have e3:((aJ cs (i+1)).map (aX m)).length=((aJ cs i).map (aX m)).length+1:=by rw [e2];simp
          refine ⟨rfl,rfl,i+1,hlt,by show cs.length-(i+1)<cs.length-i;omega, .inr ⟨?_, ?_⟩⟩
          · show _=kD _ _ _ ((aJ cs (i+1)).map (aX m)).length
            rw [e3];exact zr cs _ _ _
          · have:=hv (aJ cs (i+1))
            unfold fJ at this
            rw [e3,e2] at this
            show _=fJ _ _ ((aJ cs (i+1)).map (aX m)) _
            unfold fJ
            rw [e3,e2];exact this
      · refine hend [_] ?_
        rw [hq]
        refine decide_eq_false fun e=> ?_
        have:=of_decide_eq_false hd
        injection e with e
        simp only [Option.getD_some] at this
        omega
  · obtain rfl:j=cs.length:=by omega
    refine aI ac aa ai ah (DF (cs.map (aX m)) ((aJ cs cs.length).map (aX m)) [] (.arg m) (bk cs cs.length).1 (bk cs cs.length).2.1 (bk cs cs.length).2.2 0 0 0 m 0 bm true true cs.length [] _) (aH (decide_eq_false (by rw [hlen];omega)) ?_)
    exact ⟨rfl,rfl,rfl,by simp only [lq,fJ,hlen],rfl⟩
end
--PkF
section
open Go.RowKit Go.Shelf
set_option maxRecDepth 100000

def fK (cs:List Ch):List Px:=(aJ cs cs.length).map (·.1)
def lr (cs:List Ch) (p:Px):Option (AtV × Bool):=((e7 cs cs.length p).bind fun i=>cs[i]?).map (·.2)
def oW (cs:List Ch) (p:Px):AtV × Bool:=(lr cs p).getD (bm,false)
def bt (cs:List Ch):List Ch:=(gz (fK cs)).map fun p=>(p,oW cs p)
theorem kE {cs:List Ch} {c:Ch}:∀{j},c∈aJ cs j ↔ ∃i,i<j∧cs[i]?=some c∧e7 cs cs.length c.1=some i
 | 0=>⟨fun h=>(by cases h),fun ⟨i,h,_⟩=>absurd h (Nat.not_lt_zero i)⟩
 | j+1=>by
  have ih:=kE (cs:=cs) (c:=c) (j:=j)
  cases hc:cs[j]? with
  | none=>
   simp only [aJ,hc]
   rw [ih]
   constructor
   ·rintro ⟨i,h1,h2⟩;exact ⟨i,by omega,h2⟩
   ·rintro ⟨i,h1,h2⟩
    refine ⟨i,Classical.byContradiction fun hn=> ?_,h2⟩
    obtain rfl:i=j:=by omega
    rw [hc] at h2;cases h2.1
  | some d=>
   rw [mt hc]
   cases hd:decide (e7 cs cs.length d.1=some j) with
   | true=>
    rw [cond_true,List.mem_append,List.mem_singleton,ih]
    constructor
    ·rintro (⟨i,h1,h2⟩ | rfl)
     ·exact ⟨i,by omega,h2⟩
     ·exact ⟨j,by omega,hc,of_decide_eq_true hd⟩
    ·rintro ⟨i,h1,h2,h3⟩
     by_cases hij:i=j
     ·subst hij
      rw [hc] at h2;injection h2 with h2
      exact .inr h2.symm
     ·exact .inl ⟨i,by omega,h2,h3⟩
   | false=>
    rw [cond_false,ih]
    constructor
    ·rintro ⟨i,h1,h2⟩;exact ⟨i,by omega,h2⟩
    ·rintro ⟨i,h1,h2,h3⟩
     refine ⟨i,Classical.byContradiction fun hn=> ?_,h2,h3⟩
     obtain rfl:i=j:=by omega
     rw [hc] at h2;injection h2 with h2
     subst h2
     exact of_decide_eq_false hd h3
theorem xx {cs:List Ch}:∀j,((aJ cs j).map (·.1)).Nodup
 | 0=>List.nodup_nil
 | j+1=>by
  have ih:=xx (cs:=cs) j
  cases hc:cs[j]? with
  | none=>simp only [aJ,hc];exact ih
  | some d=>
   rw [mt hc]
   cases hd:decide (e7 cs cs.length d.1=some j) with
   | false=>exact ih
   | true=>
    rw [cond_true,List.map_append]
    refine List.nodup_append.2 ⟨ih,by simp,fun a ha b hb e=> ?_⟩
    simp only [List.map_cons,List.map_nil,List.mem_singleton] at hb
    subst hb
    obtain ⟨c,hc2,rfl⟩:=List.mem_map.1 ha
    obtain ⟨i,h1,h2,h3⟩:=kE.1 hc2
    rw [e,of_decide_eq_true hd] at h3
    injection h3 with h3
    omega
theorem sH (cs:List Ch):(fK cs).Nodup:=xx _
theorem pJ {cs:List Ch} {c:Ch} (h:c∈aJ cs cs.length):lr cs c.1=some c.2:=by
 obtain ⟨i,h1,h2,h3⟩:=kE.1 h
 unfold lr
 rw [h3,Option.bind_some,h2];rfl
theorem zu {cs:List Ch} {p:Px} {v:AtV × Bool} (h:lr cs p=some v):(p,v)∈aJ cs cs.length:=by
 unfold lr at h
 cases hq:e7 cs cs.length p with
 | none=>rw [hq] at h;cases h
 | some i=>
  rw [hq,Option.bind_some] at h
  obtain ⟨h1,c,h2,h3,h4⟩:=oU hq
  rw [h2] at h
  injection h with h
  subst h h4
  exact kE.2 ⟨i,h1,h2,hq⟩
theorem Nx (cs:List Ch):aJ cs cs.length=(fK cs).map fun p=>(p,oW cs p):=by
 unfold fK
 rw [List.map_map]
 conv=>lhs;rw [←List.map_id (aJ cs cs.length)]
 refine List.map_congr_left fun c hc=> ?_
 simp only [id_eq,Function.comp_apply,oW,pJ hc,Option.getD_some]
theorem Ny (m:Nat) (cs:List Ch):(aJ cs cs.length).map (aX m)=(fK cs).map (ic m (oW cs)):=by
 conv=>lhs;rw [Nx]
 rw [List.map_map];rfl
theorem Ii (m:Nat) (cs:List Ch):(bt cs).map (aX m)=(gz (fK cs)).map (ic m (oW cs)):=by
 unfold bt
 rw [List.map_map];rfl
theorem FG (m:Nat) (c:Ch):∀x∈aX m c,FreeM m x:=by
 intro x hx
 simp only [aX,u4,List.mem_cons,List.not_mem_nil,or_false] at hx
 rcases hx with rfl | rfl | rfl | rfl | rfl | rfl | rfl | rfl
 rotate_left 3
 ·refine FreeM.arg fun c hc=> ?_
  obtain ⟨l,hl,hc⟩:=List.mem_flatten.1 hc
  obtain ⟨z,_,rfl⟩:=List.mem_map.1 hl
  rw [List.mem_singleton.1 hc]
  exact .val _
 all_goals exact (FreeT.val _).toM
theorem Ij {T:VT} {tok:Tok}:VCx Tryz.prog ae 0 xt [.vec 8 [] tok, .fn (.func 28) [] []] T fun x T' =>x= .val (.tuple #[])∧T' =T:=by
 intro g w us r hG hx
 match us,hx.1 with
 | [u,f],_=>
  obtain ⟨us,vs,rfl,h3,h4⟩:=(hx.2 1 _ f rfl rfl).fn_inv
  have e3:us= []:=List.eq_nil_of_length_eq_zero h3.1
  have e4:vs= []:=List.eq_nil_of_length_eq_zero h4.1
  subst e3 e4
  have key:∀a c,u= .slice a 0 c→Calls Tryz.prog xt #[u, .func (.func 28) #[] #[]] w fun e w' =>∃v x g' T',e= .returned v∧(x= .val (.tuple #[])∧T' =T)∧Evo g w g' w' ∧RW g' T' w' ∧VR g' w' x v∧Fix 0 g T w T' w' :=fun a c he=>by
   subst he
   refine (AnyF.slices_SortFunc_none Tryz.sortCh a c _ w).mono fun e w' ⟨he,hw⟩=> ?_
   subst hw
   exact ⟨.tuple #[],_,g,_,he,⟨rfl,rfl⟩,Evo.refl _ _,r, .val _,⟨Nat.le_refl _,fun i hi=>absurd hi (Nat.not_lt_zero i),fun i o b hi=>absurd hi (Nat.not_lt_zero i)⟩⟩
  rcases (hx.2 0 _ u rfl rfl).vec_inv with ⟨rfl,_⟩ | ⟨b,o,c,us,rfl,h⟩ | ⟨a,rfl,_⟩
  ·exact key none 0 rfl
  ·exact key _ _ rfl
  ·exact key _ _ rfl
theorem Ik:∀ro ys T K,K5 ro ys T K→VCx Tryz.prog ae ro xt ys T K:=by
 rintro ro ys T K ⟨⟨rfl,rfl⟩,hk⟩
 exact Ij.mono fun x T' ⟨h1,h2⟩=>by subst h1 h2;exact hk
section
variable {lk:kz} {es:jt} {ck:Nat}
theorem K9 {cs:List Ch} (hl:cs.length≤1000000) (m:Nat) (hr:∀f g,VO.ren f g (.map kP lk es ck)= .map kP lk es ck):∀ro ys T K,N6 (lP lk es ck ((aJ cs cs.length).map (aX m)).length ((aJ cs cs.length).map (aX m)).flatten) (lP lk es ck ((aJ cs cs.length).map (aX m)).length ((bt cs).map (aX m)).flatten) ((aJ cs cs.length).map (aX m)).length ro ys T K→VCx Tryz.prog ae ro xt ys T K:=by
 rintro ro ys T K ⟨⟨rfl,rfl,rfl⟩,hk⟩
 have hkl:(fK cs).length≤1000000:=by
  have:=sG (cs:=cs) cs.length
  unfold fK;rw [List.length_map];omega
 have hs:=DD (G:=ae) m (oW cs) (fK cs) (sH cs) (by omega)
 rw [←Ny,←Ii,show (fK cs).length=((aJ cs cs.length).map (aX m)).length by simp [fK]] at hs
 have hfl:∀(l:List Ch) f g,av f g ((l.map (aX m)).flatten)=(l.map (aX m)).flatten:=fun l f g=>by
  have:=nc m f g l
  rw [bS] at this
  rw [eM,List.map_flatten,this]
 refine (VCx.lift (xs:= [.row 8 0 0 ((aJ cs cs.length).map (aX m)).length, .fn (.func 28) [] []]) [1] [] ap (by simp) List.nodup_nil (fun k hk=> ?_) (by simp) (fun _ _=>Nat.zero_le _) rfl (T:=lP lk es ck ((aJ cs cs.length).map (aX m)).length ((aJ cs cs.length).map (aX m)).flatten) (Q:=fun x T' =>x= .val (.tuple #[])∧T' =⟨[.row ((bt cs).map (aX m)).flatten], []⟩) ?_ ?_).mono ?_
 ·rw [List.mem_singleton.1 hk];exact ⟨_,rfl,rfl⟩
 ·have e:VT.give (lP lk es ck ((aJ cs cs.length).map (aX m)).length ((aJ cs cs.length).map (aX m)).flatten) [1] []=⟨[.row ((aJ cs cs.length).map (aX m)).flatten], []⟩:=by
   simp only [VT.give,lP,List.map_cons,List.map_nil,List.getElem?_cons_zero,List.getElem?_cons_succ,Option.getD_some,VO.ren,hfl]
  rw [e];exact hs
 ·rintro x T' ⟨_,rfl⟩;exact ⟨Nat.le_refl _,Nat.zero_le _⟩
 ·rintro x T'' ⟨y,T',⟨rfl,rfl⟩,rfl,rfl⟩
  have e:VT.back (lP lk es ck ((aJ cs cs.length).map (aX m)).length ((aJ cs cs.length).map (aX m)).flatten) [1] [] ⟨[.row ((bt cs).map (aX m)).flatten], []⟩=lP lk es ck ((aJ cs cs.length).map (aX m)).length ((bt cs).map (aX m)).flatten:=by
   simp only [VT.back,lP,List.length_cons,List.length_nil,List.map_cons,List.map_nil,VO.ren,hfl,cq,List.append_nil]
   rfl
  rw [e];exact hk
end
theorem qZ (cs:List Ch):(bt cs).length=(aJ cs cs.length).length:=by
 unfold bt fK;rw [List.length_map,Dv,List.length_map]
theorem La {L:Bs} {m j:Nat} {σ:List TV} {T:VT} (h:pick qj (cM [(6,8)] σ T).1=fJ L (.arg m) [] (j:Int)):σ[26]?=some (.vec 8 L (.arg m)):=by
 have h1:=congrArg (fun l:List TV=>l.getD 2 .dead) h
 simp only [pick,qj,fJ,cM,List.map_cons,List.getD_cons_succ,List.getD_cons_zero] at h1
 rw [List.getD_eq_getElem?_getD,List.getElem?_set_ne (by omega)] at h1
 cases hs:σ[26]? with
 | none=>rw [hs] at h1;cases h1
 | some x=>rw [hs] at h1;rw [←h1];rfl
theorem Il {cs:List Ch} (hl:cs.length≤1000000) (hp:∀c∈cs,c.2.1.p.length≤9223372036854775807) (m:Nat):VCx Tryz.prog ae 0 e6 [.vec 8 (cs.map (aX m)) (.arg m)] ⟨[], []⟩ fun x T' =>x= .vec 8 ((bt cs).map (aX m)) .none∧T' =⟨[], []⟩:=by
  have hoa:=fun K hK=>Ig hl hp m K hK
  have hob:=fun K hK=>Ih hl m K hK
  by_cases hA:aJ cs cs.length= []
  · have hB:bt cs= []:=List.eq_nil_of_length_eq_zero (by rw [qZ,hA];rfl)
    rw [hA] at hob
    refine VCx.keepQ 0 0 (Nat.le_refl _) (Nat.le_refl _) (ak ac aa (aE fun p hp=> ?_) (aL fun p hp=> ?_) (K6 (cs.map (aX m)) (.arg m) (bk cs cs.length).1 (bk cs cs.length).2.1 (bk cs cs.length).2.2 _) ⟨rfl,⟨rfl,rfl,rfl,trivial,rfl,rfl,rfl⟩,rfl,⟨rfl,rfl,rfl,⟨rfl,trivial⟩,rfl,rfl,rfl⟩,⟨rfl,rfl⟩,by rw [hB];rfl,rfl⟩)
    · obtain rfl:=List.mem_singleton.1 hp;exact Ik
    · rcases List.mem_cons.1 hp with rfl | hp
      · exact aS hoa
      · obtain rfl:=List.mem_singleton.1 hp
        exact aS hob
  · have hpos:0<((aJ cs cs.length).map (aX m)).length:=by rw [List.length_map];exact List.length_pos_iff.2 hA
    have hcs:cs.map (aX m)≠ []:=fun e=>by
      have h0:cs= []:=by simpa using e
      subst h0
      exact hA rfl
    have h1:VCx Tryz.prog ae 0 e6 [.vec 8 (cs.map (aX m)) (.arg m)] ⟨[], []⟩ fun x T' =>x= .vec 8 ((bt cs).map (aX m)) .none∧True:=by
      refine VCx.freeze (Q:=fun _=>True) (ak ac aa (aE fun p hp=> ?_) (aL fun p hp=> ?_) (K7 (cs.map (aX m)) ((aJ cs cs.length).map (aX m)) ((bt cs).map (aX m)) (.arg m) (bk cs cs.length).1 (bk cs cs.length).2.1 (bk cs cs.length).2.2 _) ⟨rfl,⟨rfl,rfl,rfl,trivial,rfl,rfl,rfl⟩,rfl,⟨rfl,rfl,rfl,⟨rfl,trivial⟩,rfl,rfl,rfl,rfl⟩,⟨rfl,rfl,rfl⟩,1,0,_,rfl, ?_,trivial⟩)
      · obtain rfl:=List.mem_singleton.1 hp;exact K9 hl m fun f g=>tU cs cs.length f g
      · rcases List.mem_cons.1 hp with rfl | hp
        · exact aS hoa
        · obtain rfl:=List.mem_singleton.1 hp
          refine yv (m:=m) (vs1:=fJ (cs.map (aX m)) (.arg m) ((aJ cs cs.length).map (aX m)) ((cs.map (aX m)).length:Nat)) rfl rfl hpos (fun g w σ us T hσ hpk=> ?_) (fun x hx=> ?_) (fun o ho=> ?_) hob
          · obtain ⟨u,_,hu⟩:=hσ.at (La (j:=0) hpk)
            generalize hL:cs.map (aX m)=L at hu hcs
            cases hu with
            | nil=>exact absurd rfl hcs
            | odd=>exact absurd rfl hcs
            | vec hn hc hz ht _ _ _ _ _=>
              rcases ht with h0 | h0
              · exact absurd (List.eq_nil_of_length_eq_zero h0) hcs
              · exact h0.2
          · obtain ⟨l,hl,hx⟩:=List.mem_flatten.1 hx
            obtain ⟨c,_,rfl⟩:=List.mem_map.1 hl
            exact FG m c x hx
          · rw [List.mem_singleton.1 ho]
            intro e he
            obtain ⟨v,hv⟩:=(tT (cs:=cs) cs.length).2 e he
            rw [hv];exact .val v
      · rw [show ((aJ cs cs.length).map (aX m)).length=((bt cs).map (aX m)).length by rw [List.length_map,List.length_map,qZ]]
        exact hZ rfl fun e he=>by obtain ⟨c,_,rfl⟩:=List.mem_map.1 he;rfl
    refine VCx.keepQ 0 0 (Nat.le_refl _) (Nat.le_refl _) (h1.mono fun x T' ⟨hx,_⟩=> ?_)
    subst hx
    exact ⟨by simp only [TV.ren,nc,Tok.ren],rfl⟩
def ag (c:Ch):List TV:=az c.1.1 c.1.2 c.2.1 c.2.2
theorem gU (c:Ch) (f g:Nat→Option Nat):av f g (ag c)=ag c:=by
 simp only [ag,az,AtV.cells,List.cons_append,List.nil_append,av,TV.ren,dw,Tok.ren]
theorem aP (f g:Nat→Option Nat) (cs:List Ch):bG f g (cs.map ag)=cs.map ag:=fT ag (fun a=>gU a f g) cs
theorem Im (m:Nat) (cs:List Ch) (tok:Tok):m6 m [.vec 8 (cs.map ag) tok]= [.vec 8 (cs.map (aX m)) (.arg m)]:=by
 have h1:∀p:List Int,iX m (iV p)=iV p:=fun p=>by
  rw [gQ,iV,List.map_map]
  exact List.map_congr_left fun z _=>rfl
 simp only [m6,qO]
 rw [gQ,List.map_map]
 congr 2
 refine List.map_congr_left fun c _=> ?_
 simp only [Function.comp_apply,ag,az,AtV.cells,List.cons_append,List.nil_append,List.map_cons,List.map_nil,qO,h1]
 rfl
theorem TVle.vecMap {α:Type} {size:Nat} {f g:α→List TV} (h:∀a,TVleL (f a) (g a)) (l:List α):TVle (.vec size (l.map f) .none) (.vec size (l.map g) .none):=by
  have hf:TVleL (l.map f).flatten (l.map g).flatten:=by
    induction l with
    | nil=>trivial
    | cons a l ih=>
      have:∀{x y u v:List TV},TVleL x y→TVleL u v→TVleL (x++u) (y++v):=by
        intro x
        induction x with
        | nil=>
          intro y u v h1 h2
          cases y with
          | nil=>exact h2
          | cons=>exact h1.elim
        | cons a x ih=>
          intro y u v h1 h2
          cases y with
          | nil=>exact h1.elim
          | cons b y=>exact ⟨h1.1,ih h1.2 h2⟩
      exact this (h a) ih
  intro gh w u hu
  rcases hu.vec_inv with ⟨rfl,he,_⟩ | ⟨b,o,c,us,rfl,f1,f2,f3,f4,f5,f6,f7,f8⟩ | ⟨a,rfl,he,_⟩
  · have:l= []:=by simpa using he
    subst this;exact .nil trivial
  · have hl:=hf.at.1
    refine .mk_vec (by simp) (by simpa using f1) f2 (fun e he=> ?_) trivial (hf.vrs f5) (fun j hj=>f6 j (by omega)) f7 f8
    obtain ⟨a,ha,rfl⟩:=List.mem_map.1 he
    rw [←(h a).at.1]
    exact f3 _ (List.mem_map_of_mem ha)
  · have:l= []:=by simpa using he
    subst this;exact .odd a trivial
theorem DH {cs:List Ch} (hl:cs.length≤1000000) (hp:∀c∈cs,c.2.1.p.length≤9223372036854775807) (tok:Tok):VCx Tryz.prog ae 0 e6 [.vec 8 (cs.map ag) tok] ⟨[], []⟩ fun x T' =>x= .vec 8 ((bt cs).map ag) .none∧T' =⟨[], []⟩:=by
 refine VCx.toArg fun m=> ?_
 rw [Im]
 exact VCx.toLe ((Il hl hp m).mono fun x T' ⟨h1,h2⟩=>⟨by rw [h1];exact TVle.vecMap (f:=aX m) (g:=ag) (fun c:Ch=>DG c.1 m c.2.1 c.2.2) _,h2⟩)
end
--PkP
section
open Go.RowKit

def aZ:List Ch→UpV
 | []=>⟨[],bm, []⟩
 | c::l=>bif c.2.2 then ⟨(c::l).map (·.1),bm, []⟩ else ⟨[],c.2.1,(c::l).map (·.1)⟩
def nd (u:UpV):Int:=bif dO u then ((qi u).length:Int) else 0
def ci (l:List Ch):Bool:=decide (nd (aZ l)≤4077)
def nf (may:List Ch→Bool) (l:List Ch):Nat→Nat→Nat
 | 0,n=>n
 | f+1,n=>bif decide (n<l.length)&&may (l.take (n+1)) then nf may l f (n+1) else n
def cL (may:List Ch→Bool) (l:List Ch):Nat:=nf may l l.length 1
def e8 (may:List Ch→Bool):Nat→List Ch→List (List Ch)
 | 0,_=> []
 | f+1,l=>bif l.isEmpty then [] else l.take (cL may l)::e8 may f (l.drop (cL may l))
def aU (l:List Ch):List (List Ch):=e8 ci l.length l
def bR (l:List Ch):List UpV:=(aU l).map aZ
def lu:Nat→List Ch→List UpV
 | 0,_=> []
 | _+1, []=> []
 | f+1,c::l=>bR ((c::l).filter fun x=>decide (x.2.1=c.2.1))++lu f ((c::l).filter fun x=> !decide (x.2.1=c.2.1))
def bQ (cs:List Ch):List UpV:=bR ((bt cs).filter fun c=>c.2.2)++lu (bt cs).length ((bt cs).filter fun c=> !c.2.2)
def bO (us:List UpV):List Ch:=us.flatMap fun u=>u.w.map (fun p=>(p,bm,true))++u.n.map fun p=>(p,u.a,false)
def kF (c:Int):List Ch→Int
 | []=>c
 | x::l=>kF (IntKind.wrap .i64 (c+(x.2.1.p.length:Int))) l
def fL (c:Int):List Ch→Bool
 | []=>true
 | x::l=>bif decide (IntKind.wrap .i64 (c+(x.2.1.p.length:Int))>3000) then false else fL (IntKind.wrap .i64 (c+(x.2.1.p.length:Int))) l
def ig (cs:List Ch):Bool:=bif decide ((cs.length:Int)>60) then false else fL 0 cs
structure CsOk (cs:List Ch):Prop where
 few:cs.length≤50000
 at' :∀c∈cs,c.2.1.p.length≤9223372036854775807∧0≤c.2.1.h∧c.2.1.h<4294967296
def FH (L P:Bs):Prop:=∃cs:List Ch,L=cs.map ag∧cs.length≤1000000∧P=an (cs.map (·.1))
def FI (L w:Bs) (x:AtV) (n:Bs):Prop:=∃cs:List Ch,L=cs.map ag∧cs≠ []∧cs.length≤1000000∧w=an (aZ cs).w∧x=(aZ cs).a∧n=an (aZ cs).n
def Lb (L:Bs) (b:Bool):Prop:=∃cs:List Ch,L=cs.map ag∧cs≠ []∧CsOk cs∧b=ci cs
def Lc (L C:Bs):Prop:=∃cs:List Ch,L=cs.map ag∧CsOk cs∧C=(aU cs).map fun l=> [.vec 8 (l.map ag) .none]
def Ld (L A B:Bs):Prop:=∃cs:List Ch,L=cs.map ag∧cs.length≤1000000∧A=(cs.filter fun c=>c.2.2).map ag∧B=(cs.filter fun c=> !c.2.2).map ag
def Le (y:AtV) (L A B:Bs):Prop:=∃cs:List Ch,L=cs.map ag∧CsOk cs∧y.p.length≤9223372036854775807∧A=(cs.filter fun c=>decide (c.2.1=y)).map ag∧B=(cs.filter fun c=> !decide (c.2.1=y)).map ag
def Bo (L U:Bs):Prop:=∃cs:List Ch,L=cs.map ag∧CsOk cs∧U=(bR cs).map UpV.cells
def Lf (L:Bs):Prop:=∃cs:List Ch,L=cs.map ag∧CsOk cs
def Lg (L U:Bs):Prop:=∃cs:List Ch,(∀tok,TVle (.vec 8 L tok) (.vec 8 (cs.map ag) .none))∧CsOk cs∧U=(bQ cs).map UpV.cells
def FJ (L M:Bs) (b:Bool):Prop:=∃cs ds:List Ch,L=cs.map ag∧M=ds.map ag∧CsOk cs∧CsOk ds∧b=decide (cs=ds)
def Lh (l:List TV) (b:Bool):Prop:=∃c:Ch,l=ag c∧b=c.2.2
def Li (y l:List TV) (b:Bool):Prop:=∃(a:AtV) (c:Ch),y=a.cells∧l=ag c∧a.p.length≤9223372036854775807∧c.2.1.p.length≤9223372036854775807∧b=decide (c.2.1=a)
def Lj (l:List TV) (b:Bool):Prop:=∃u:UpV,l=u.cells∧ib u∧b=dO u
def Lk (l:List TV) (b:Bs):Prop:=∃u:UpV,l=u.cells∧ib u∧dO u=true∧b=qi u
def Ll (l:List TV) (z:Int):Prop:=∃u:UpV,l=u.cells∧ib u∧z=nd u
def Lm (l m:List TV) (b:Bool):Prop:=∃c d:Ch,l=ag c∧m=ag d∧c.2.1.p.length≤9223372036854775807∧d.2.1.p.length≤9223372036854775807∧b=decide (c=d)
end
--PkG
section
open Go.RowKit

abbrev qk:=6
abbrev ge:=14
abbrev Ln:=16
abbrev lv:=21
abbrev ir:=39
abbrev ql:=38
abbrev xy:=37
abbrev sI:=40
abbrev gu:=19
abbrev sJ:=20
abbrev sK:=22
abbrev Gy:=41
abbrev N7:=56
abbrev N8:=57
abbrev nM:=4
abbrev N9:=5
abbrev lx:=31
abbrev nN:=32
def aV (w:Bs) (x:AtV) (n:Bs):List TV:= [.vec 2 w .none]++x.cells++ [.vec 2 n .none]
def Lo (l' :Bs):aM:=fun _ ys T K=>match ys with
 | [.vec 8 l _]=>FH l l' ∧K (.vec 2 l' .none) T
 | _=>ay 84 default ys
def DI (w:Bs) (x:AtV) (n:Bs):aM:=fun _ ys T K=>match ys with
 | [.vec 8 l _]=>FI l w x n∧K (.agg (aV w x n)) T
 | _=>ay 84 default ys
def ly:VO:= .cells [.fn (.func xy) [] []]
def Gz (b:Bool):aM:=fun ro ys T K=>match ys with
 | [.vec 8 l _, .ptr i 0]=>((@Eq Bool (Nat.ble ro i) true)∧(@Eq (Option VO) (T.objs[i]?) (some ly))∧Lb l b)∧K (.val (.bool b)) T
 | _=>ay 84 default ys
def Lp (c:Bs):aM:=fun ro ys T K=>match ys with
 | [.vec 8 l _, .fn (.func f) [] [.ptr i 0]]=>((@Eq Nat f sI)∧(@Eq Bool (Nat.ble ro i) true)∧(@Eq (Option VO) (T.objs[i]?) (some ly))∧Lc l c)∧K (.vec 1 c .none) T
 | _=>ay 84 default ys
def Lq (a b:Bs):aM:=fun _ ys T K=>match ys with
 | [.vec 8 l _, .fn (.func f) [] []]=>((@Eq Nat f sJ)∧Ld l a b)∧K (.tup [.vec 8 a .none, .vec 8 b .none]) T
 | _=>ay 84 default ys
def GA (y:AtV) (a b:Bs):aM:=fun ro ys T K=>match ys with
 | [.vec 8 l _, .fn (.func f) [] [.ptr i 0]]=>((@Eq Nat f sK)∧(@Eq Bool (Nat.ble ro i) true)∧(@Eq (Option VO) (T.objs[i]?) (some (.cells y.cells)))∧Le y l a b)∧K (.tup [.vec 8 a .none, .vec 8 b .none]) T
 | _=>ay 84 default ys
def Lr (u:Bs):aM:=fun ro ys T K=>match ys with
 | [.vec 8 l _]=>((@Eq Nat ro 0)∧Bo l u)∧K (.vec 7 u (.tail T.tails.length u.length)) {T with tails:=T.tails++ [(u.length,7,true)]}
 | _=>ay 84 default ys
def GB (u:Bs):aM:=fun _ ys T K=>match ys with
 | [.vec 8 l _]=>Bo l u∧K (.vec 7 u .none) T
 | _=>ay 84 default ys
def Ls (R:Bs→Bs):aM:=fun _ ys T K=>match ys with
 | [.vec 8 l _]=>Lf l∧K (.vec 8 (R l) .none) T
 | _=>ay 84 default ys
def Lt (u:Bs):aM:=fun _ ys T K=>match ys with
 | [.vec 8 l _]=>Lg l u∧K (.vec 7 u .none) T
 | _=>ay 84 default ys
def Oa (b:Bool):aM:=fun _ ys T K=>match ys with
 | [.vec 8 l _, .vec 8 m _]=>FJ l m b∧K (.val (.bool b)) T
 | _=>ay 84 default ys
def Lu (b:Bool):aM:=fun _ ys T K=>match ys with
 | [.vec 8 l _, .vec 8 m _, .fn (.func f) [] []]=>((@Eq Nat f nN)∧FJ l m b)∧K (.val (.bool b)) T
 | _=>ay 84 default ys
def Lv (b:Bool):aM:=fun _ ys T K=>match ys with
 | [.agg l]=>Lj l b∧K (.val (.bool b)) T
 | _=>ay 84 default ys
def Lw (b:Bs):aM:=fun _ ys T K=>match ys with
 | [.agg l]=>Lk l b∧K (.vec 1 b .none) T
 | _=>ay 84 default ys
def Lx (z:Int):aM:=fun _ ys T K=>match ys with
 | [.agg l]=>Ll l z∧K (.val (.int .i64 z)) T
 | _=>ay 84 default ys
def GC (b:Bool):aM:=fun _ ys T K=>match ys with
 | [.agg l, .agg m]=>Lm l m b∧K (.val (.bool b)) T
 | _=>ay 84 default ys
def lA:TV:= .fn (.func sJ) [] []
def lB:TV:= .fn (.func sK) [] [.ptr 0 0]
def lC:List Nat:= [1,6,7,10,11,12]
def er (so:TV) (L:Bs) (tk:Tok) (a b:Bs) (j:Int):List TV:= [so, .vec 8 a (.tail 0 a.length), .vec 8 b (.tail 1 b.length), .vec 8 L tk, .val (.int .i64 L.length), .val (.int .i64 j)]
def gV (O:List VO) (a b:Nat):VT:=⟨O, [(a,8,true),(b,8,true)]⟩
def Ob (so:TV) (O:List VO) (L:Bs) (tk:Tok) (a b:Bs) (c:Code):Nat→Option (br × Code):=bv [(0,bN 30 lC [(6,8),(7,8)] (er so L tk [] [] 0) (gV O 0 0) (fun K=>K .normal (aj 30 lC (er so L tk a b L.length)) (gV O a.length b.length) []),c)]
def Bp (b:Bool):aM:=fun _ ys T K=>match ys with
 | [.agg l]=>Lh l b∧K (.val (.bool b)) T
 | _=>ay 84 default ys
def Bq (y:List TV) (b:Bool):aM:=fun ro ys T K=>match ys with
 | [.agg l, .ptr i 0]=>((@Eq Bool (Nat.ble ro i) true)∧(@Eq (Option VO) (T.objs[i]?) (some (.cells y)))∧Li y l b)∧K (.val (.bool b)) T
 | _=>ay 84 default ys
def xz:List Nat:= [3,6,7,8]
def qm (L:Bs) (tk:Tok) (p:Bs) (j:Int):List TV:= [.vec 2 p (.tail 0 p.length), .vec 8 L tk, .val (.int .i64 L.length), .val (.int .i64 j)]
def u7 (n:Nat):VT:=⟨[], [(n,2,true)]⟩
def OQ (L:Bs) (tk:Tok) (p:Bs) (c:Code):Nat→Option (br × Code):=bv [(0,bN 19 xz [(3,2)] (qm L tk [] 0) (u7 0) (fun K=>K .normal (aj 19 xz (qm L tk p L.length)) (u7 p.length) []),c)]
def zv:TV:= .fn (.func sI) [] [.ptr 0 0]
def xA:List Nat:= [0,1,5]
def sL (l:Bs) (tk:Tok) (o:Bs):List TV:= [.vec 8 l tk,zv, .vec 1 o (.tail 0 o.length)]
def ii (n:Nat):VT:=⟨[ly], [(n,1,true)]⟩
def OS (L:Bs) (tk:Tok) (o:Bs) (c:Code):Nat→Option (br × Code):=bv [(0,bN 35 xA [(5,1)] (sL L tk []) (ii 0) (fun K=>K .normal (aj 35 xA (sL [] tk o)) (ii o.length) []),c)]
def qn:List Nat:= [0,1,5,6]
def oX (l:Bs) (tk:Tok) (o:Bs) (n:Int):List TV:= [.vec 8 l tk,zv, .vec 1 o (.tail 0 o.length), .val (.int .i64 n)]
def OT (l:Bs) (tk:Tok) (o:Bs) (n:Nat) (c:Code):Nat→Option (br × Code):=bv [(2,bN 35 qn [] (oX l tk o 1) (ii o.length) (fun K=>K .normal (aj 35 qn (oX l tk o n)) (ii o.length) []),c)]
def u9:List Nat:= [3,4,9,10,11]
def oY (C u:Bs) (j:Int):List TV:= [.ptr 0 0, .vec 7 u (.tail 0 u.length), .vec 1 C .none, .val (.int .i64 C.length), .val (.int .i64 j)]
def sM (n:Nat):VT:=⟨[ly], [(n,7,true)]⟩
def OU (C u:Bs) (c:Code):Nat→Option (br × Code):=bv [(0,bN 23 u9 [(4,7)] (oY C [] 0) (sM 0) (fun K=>K .normal (aj 23 u9 (oY C u C.length)) (sM u.length) []),c)]
def xB:List Nat:= [4,5]
def sN (l u:Bs):List TV:= [.vec 8 l .none, .vec 7 u (.tail 0 u.length)]
def va (n:Nat):VT:=⟨[], [(n,7,true)]⟩
def OV (l u0 u:Bs) (c:Code):Nat→Option (br × Code):=bv [(0,bN 34 xB [] (sN l u0) (va u0.length) (fun K=>K .normal (aj 34 xB (sN [] u)) (va u.length) []),c)]
def sO:List Nat:= [3,10,11,12]
def nO (l U:Bs) (tk:Tok) (j:Int):List TV:= [.vec 8 l (.tail 0 l.length), .vec 7 U tk, .val (.int .i64 U.length), .val (.int .i64 j)]
def qp (n:Nat):VT:=⟨[], [(n,8,true)]⟩
def OW (l U:Bs) (tk:Tok) (c:Code):Nat→Option (br × Code):=bv [(0,bN 46 sO [(3,8)] (nO [] U tk 0) (qp 0) (fun K=>K .normal (aj 46 sO (nO l U tk U.length)) (qp l.length) []),c)]
def qr:List Nat:= [3,5,10,11,12,17,18,19]
def vc (l U:Bs) (tk:Tok) (j:Int) (w:Bs) (i:Int):List TV:= [.vec 8 l (.tail 0 l.length), .ptr 0 0, .vec 7 U tk, .val (.int .i64 U.length), .val (.int .i64 j), .vec 2 w .none, .val (.int .i64 w.length), .val (.int .i64 i)]
def qt:List Nat:= [3,5,10,11,12,30,31,32]
def fM (w:Bs) (x:AtV) (n:Bs) (k:Nat):VT:=⟨[.cells (aV w x n)], [(k,8,true)]⟩
def OX (l l1 l2 U:Bs) (tk:Tok) (j:Int) (w:Bs) (x:AtV) (n:Bs) (c d:Code):Nat→Option (br × Code):=bv [(2,bN 46 qr [] (vc l U tk j w 0) (fM w x n l.length) (fun K=>K .normal (aj 46 qr (vc l1 U tk j w w.length)) (fM w x n l1.length) []),c),(4,bN 46 qt [] (vc l1 U tk j n 0) (fM w x n l1.length) (fun K=>K .normal (aj 46 qt (vc l2 U tk j n n.length)) (fM w x n l2.length) []),d)]
def sP:List Nat:= [6,1,2,15,16,17]
def nP (L M:Bs) (t1 t2:Tok) (j:Int):List TV:= [.val (.bool false), .vec 8 M t2, .fn (.func nN) [] [], .vec 8 L t1, .val (.int .i64 L.length), .val (.int .i64 j)]
def OY (L M:Bs) (t1 t2:Tok) (b:Bool) (c:Code):Nat→Option (br × Code):=bv [(0,bN 32 sP [] (nP L M t1 t2 0) ⟨[], []⟩ (fun K=>bif b then K .normal (aj 32 sP (nP L M t1 t2 L.length)) ⟨[], []⟩ [] else ∀(jj:Int) (oo:List VO),K .ret (aj 32 sP (nP L M t1 t2 jj)) ⟨oo, []⟩ []),c)]
def sQ:List Nat:= [4,5,12,13,14]
def mu (L:Bs) (tk:Tok) (n j:Int):List TV:= [.val (.bool false), .val (.int .i64 n), .vec 8 L tk, .val (.int .i64 L.length), .val (.int .i64 j)]
def OZ (L:Bs) (tk:Tok) (n:Int) (b:Bool) (c:Code):Nat→Option (br × Code):=bv [(0,bN 27 sQ [] (mu L tk 0 0) ⟨[], []⟩ (fun K=>bif b then K .normal (aj 27 sQ (mu L tk n L.length)) ⟨[], []⟩ [] else ∀(cc jj:Int) (oo:List VO),K .ret (aj 27 sQ (mu L tk cc jj)) ⟨oo, []⟩ []),c)]
def Ly (c:Code):Nat→Option (br × Code):=bv [(0,fun _ _ _ _ _ _=>False,c)]
theorem Lz (a n:Int) (x:AtV) (g:Bool) (Q:TV→VT→Prop):aq Tryz.prog ae aR (aA [(999998, .dead,none)]) 300 aD 0 sJ [.agg (az a n x g)] ⟨[], []⟩ Q=
Q (.val (.bool (g))) ⟨[(.cells [(.val (.int .u32 (a))),(.val (.int .i64 (n))),(.val (.int .i64 (AtV.o x))),(.vec 1 (iV (AtV.p x)) .none),(.val (.int .u32 (AtV.h x))),(.val (.int .i64 (AtV.m x))),(.val (.bool (AtV.hm x))),(.val (.bool (g)))])], []⟩:=by kernel_rfl
theorem LA (a n:Int) (x y:AtV) (g ok:Bool) (Q:TV→VT→Prop):aq Tryz.prog ae (aw [(oL,Dj ok)]) (aA [(999998, .dead,none)]) 300 aD 0 sK [.agg (az a n x g), .ptr 0 0] ⟨[.cells y.cells], []⟩ Q=
 (Ft [(.val (.int .i64 (AtV.o x))),(.vec 1 (iV (AtV.p x)) .none),(.val (.int .u32 (AtV.h x))),(.val (.int .i64 (AtV.m x))),(.val (.bool (AtV.hm x)))] [(.val (.int .i64 (AtV.o y))),(.vec 1 (iV (AtV.p y)) .none),(.val (.int .u32 (AtV.h y))),(.val (.int .i64 (AtV.m y))),(.val (.bool (AtV.hm y)))] (ok)∧
 Q (.val (.bool (ok))) ⟨[(.cells [(.val (.int .i64 (AtV.o y))),(.vec 1 (iV (AtV.p y)) .none),(.val (.int .u32 (AtV.h y))),(.val (.int .i64 (AtV.m y))),(.val (.bool (AtV.hm y)))]),(.cells [(.val (.int .u32 (a))),(.val (.int .i64 (n))),(.val (.int .i64 (AtV.o x))),(.vec 1 (iV (AtV.p x)) .none),(.val (.int .u32 (AtV.h x))),(.val (.int .i64 (AtV.m x))),(.val (.bool (AtV.hm x))),(.val (.bool (g)))])], []⟩):=by kernel_rfl
theorem LB (L a b:Bs) (tk:Tok) (Q:TV→VT→Prop):aq Tryz.prog ae aR (aA [(999998, .dead,none)]) 300 (Ob lA [] L tk a b (am Tryz.prog gu 0)) 0 gu [.vec 8 L tk,lA] ⟨[], []⟩ Q=
 ((am Tryz.prog gu (0:Nat)=am Tryz.prog gu (0:Nat))∧
 (((@Eq (Option Nat) .none .none)∧
 ((@Eq (Nat) 0 0)∧
 ((@Eq (List Nat) [] [])∧
 (((@Eq (Option TV) (.some (.val (.slice .none 0 0))) (.some (.val (.slice .none 0 0))))∧
 ((@Eq (Option TV) (.some (.val (.slice .none 0 0))) (.some (.val (.slice .none 0 0))))∧
 True))∧
 ((@Eq (VT) ⟨[], [(0,(8,true)),(0,(8,true))]⟩ ⟨[], [(0,(8,true)),(0,(8,true))]⟩)∧
 ((@Eq (Bool) true true)∧
 (@Eq (List TV) [(.fn (.func 20) [] []),(.vec 8 [] (.tail 0 0)),(.vec 8 [] (.tail 1 0)),(.vec 8 (L) (tk)),(.val (.int .i64 ((↑(List.length L):Int)))),(.val (.int .i64 0))] [(.fn (.func 20) [] []),(.vec 8 [] (.tail 0 0)),(.vec 8 [] (.tail 1 0)),(.vec 8 (L) (tk)),(.val (.int .i64 ((↑(List.length L):Int)))),(.val (.int .i64 0))])))))))∧
 Q (.tup [(.vec 8 (a) (.tail 0 (List.length a))),(.vec 8 (b) (.tail 1 (List.length b)))]) ⟨[], [((List.length a),(8,true)),((List.length b),(8,true))]⟩)):=by kernel_rfl
theorem DJ (L a b a2 b2:Bs) (tk:Tok) (z n:Int) (x:AtV) (g ok:Bool) (j k2 k3:Nat) (tl2 tl3:eo) (Q:Exit→List TV→VT→List Nat→Nat→Prop):vx Tryz.prog ae (aw [(sJ,Bp ok)]) (aA [(999998, .dead,none),(14, .elt (az z n x g),none),(22, .vec 8 a2 (.tail 0 k2),some fun T=>{T with tails:=tl2}),(26, .vec 8 b2 (.tail 1 k3),some fun T=>{T with tails:=tl3})]) 300 aD none 0 (bd Tryz.prog gu 0) (aj 30 lC (er lA L tk a b j)) (gV [] a.length b.length) [] (bA lC Q)=
 (bif decide ((↑j:Int)<(↑(List.length L):Int))
 then (ax Tryz.prog (fun _=> .none) (.indexAddr 22 (.tmp 10) (.tmp 12)) [(10,(.vec 8 (L) (tk))),(12,(.val (.int .i64 ((↑j:Int)))))] (.elt [(.val (.int .u32 (z))),(.val (.int .i64 (n))),(.val (.int .i64 (AtV.o x))),(.vec 1 (iV (AtV.p x)) .none),(.val (.int .u32 (AtV.h x))),(.val (.int .i64 (AtV.m x))),(.val (.bool (AtV.hm x))),(.val (.bool (g)))])∧
 (Lh [(.val (.int .u32 (z))),(.val (.int .i64 (n))),(.val (.int .i64 (AtV.o x))),(.vec 1 (iV (AtV.p x)) .none),(.val (.int .u32 (AtV.h x))),(.val (.int .i64 (AtV.m x))),(.val (.bool (AtV.hm x))),(.val (.bool (g)))] (ok)∧
 (bif ok
 then (aB Tryz.prog (fun _=> .none) 0 ⟨[(.cells [(.val (.int .u32 (z))),(.val (.int .i64 (n))),(.val (.int .i64 (AtV.o x))),(.vec 1 (iV (AtV.p x)) .none),(.val (.int .u32 (AtV.h x))),(.val (.int .i64 (AtV.m x))),(.val (.bool (AtV.hm x))),(.val (.bool (g)))])], [((List.length a),(8,true)),((List.length b),(8,true))]⟩ (.call ⟨(.builtin .append), #[(.tmp 19),(.tmp 21)], #[22,22]⟩) [(19,(.vec 8 (a) (.tail 0 (List.length a)))),(21,(.vec 8 [[(.val (.int .u32 (z))),(.val (.int .i64 (n))),(.val (.int .i64 (AtV.o x))),(.vec 1 (iV (AtV.p x)) .none),(.val (.int .u32 (AtV.h x))),(.val (.int .i64 (AtV.m x))),(.val (.bool (AtV.hm x))),(.val (.bool (g)))]] .full))] (.vec 8 (a2) (.tail 0 (k2))) ⟨[(.cells [(.val (.int .u32 (z))),(.val (.int .i64 (n))),(.val (.int .i64 (AtV.o x))),(.vec 1 (iV (AtV.p x)) .none),(.val (.int .u32 (AtV.h x))),(.val (.int .i64 (AtV.m x))),(.val (.bool (AtV.hm x))),(.val (.bool (g)))])],(tl2)⟩∧
 Q .normal [(.fn (.func 20) [] []),(.vec 8 (a2) (.tail 0 (k2))),(.vec 8 (b) (.tail 1 (List.length b))),(.vec 8 (L) (tk)),(.val (.int .i64 ((↑(List.length L):Int)))),(.val (.int .i64 (IntKind.wrap IntKind.i64 ((↑j:Int)+(1:Int)))))] ⟨[(.cells [(.val (.int .u32 (z))),(.val (.int .i64 (n))),(.val (.int .i64 (AtV.o x))),(.vec 1 (iV (AtV.p x)) .none),(.val (.int .u32 (AtV.h x))),(.val (.int .i64 (AtV.m x))),(.val (.bool (AtV.hm x))),(.val (.bool (g)))])],(tl2)⟩ [] 30)
 else (aB Tryz.prog (fun _=> .none) 0 ⟨[(.cells [(.val (.int .u32 (z))),(.val (.int .i64 (n))),(.val (.int .i64 (AtV.o x))),(.vec 1 (iV (AtV.p x)) .none),(.val (.int .u32 (AtV.h x))),(.val (.int .i64 (AtV.m x))),(.val (.bool (AtV.hm x))),(.val (.bool (g)))])], [((List.length a),(8,true)),((List.length b),(8,true))]⟩ (.call ⟨(.builtin .append), #[(.tmp 23),(.tmp 25)], #[22,22]⟩) [(23,(.vec 8 (b) (.tail 1 (List.length b)))),(25,(.vec 8 [[(.val (.int .u32 (z))),(.val (.int .i64 (n))),(.val (.int .i64 (AtV.o x))),(.vec 1 (iV (AtV.p x)) .none),(.val (.int .u32 (AtV.h x))),(.val (.int .i64 (AtV.m x))),(.val (.bool (AtV.hm x))),(.val (.bool (g)))]] .full))] (.vec 8 (b2) (.tail 1 (k3))) ⟨[(.cells [(.val (.int .u32 (z))),(.val (.int .i64 (n))),(.val (.int .i64 (AtV.o x))),(.vec 1 (iV (AtV.p x)) .none),(.val (.int .u32 (AtV.h x))),(.val (.int .i64 (AtV.m x))),(.val (.bool (AtV.hm x))),(.val (.bool (g)))])],(tl3)⟩∧
 Q .normal [(.fn (.func 20) [] []),(.vec 8 (a) (.tail 0 (List.length a))),(.vec 8 (b2) (.tail 1 (k3))),(.vec 8 (L) (tk)),(.val (.int .i64 ((↑(List.length L):Int)))),(.val (.int .i64 (IntKind.wrap IntKind.i64 ((↑j:Int)+(1:Int)))))] ⟨[(.cells [(.val (.int .u32 (z))),(.val (.int .i64 (n))),(.val (.int .i64 (AtV.o x))),(.vec 1 (iV (AtV.p x)) .none),(.val (.int .u32 (AtV.h x))),(.val (.int .i64 (AtV.m x))),(.val (.bool (AtV.hm x))),(.val (.bool (g)))])],(tl3)⟩ [] 30))))
 else Q (.exit 0) [(.fn (.func 20) [] []),(.vec 8 (a) (.tail 0 (List.length a))),(.vec 8 (b) (.tail 1 (List.length b))),(.vec 8 (L) (tk)),(.val (.int .i64 ((↑(List.length L):Int)))),(.val (.int .i64 ((↑j:Int))))] ⟨[], [((List.length a),(8,true)),((List.length b),(8,true))]⟩ [] 30):=by kernel_rfl
theorem LC (y:AtV) (L a b:Bs) (tk:Tok) (Q:TV→VT→Prop):aq Tryz.prog ae aR (aA [(999998, .dead,none)]) 300 (Ob lB [.cells y.cells] L tk a b (am Tryz.prog gu 0)) 0 gu [.vec 8 L tk,lB] ⟨[.cells y.cells], []⟩ Q=
 ((am Tryz.prog gu (0:Nat)=am Tryz.prog gu (0:Nat))∧
 (((@Eq (Option Nat) .none .none)∧
 ((@Eq (Nat) 0 0)∧
 ((@Eq (List Nat) [] [])∧
 (((@Eq (Option TV) (.some (.val (.slice .none 0 0))) (.some (.val (.slice .none 0 0))))∧
 ((@Eq (Option TV) (.some (.val (.slice .none 0 0))) (.some (.val (.slice .none 0 0))))∧
 True))∧
 ((@Eq (VT) ⟨[(.cells [(.val (.int .i64 (AtV.o y))),(.vec 1 (iV (AtV.p y)) .none),(.val (.int .u32 (AtV.h y))),(.val (.int .i64 (AtV.m y))),(.val (.bool (AtV.hm y)))])], [(0,(8,true)),(0,(8,true))]⟩ ⟨[(.cells [(.val (.int .i64 (AtV.o y))),(.vec 1 (iV (AtV.p y)) .none),(.val (.int .u32 (AtV.h y))),(.val (.int .i64 (AtV.m y))),(.val (.bool (AtV.hm y)))])], [(0,(8,true)),(0,(8,true))]⟩)∧
 ((@Eq (Bool) true true)∧
 (@Eq (List TV) [(.fn (.func 22) [] [(.ptr 0 0)]),(.vec 8 [] (.tail 0 0)),(.vec 8 [] (.tail 1 0)),(.vec 8 (L) (tk)),(.val (.int .i64 ((↑(List.length L):Int)))),(.val (.int .i64 0))] [(.fn (.func 22) [] [(.ptr 0 0)]),(.vec 8 [] (.tail 0 0)),(.vec 8 [] (.tail 1 0)),(.vec 8 (L) (tk)),(.val (.int .i64 ((↑(List.length L):Int)))),(.val (.int .i64 0))])))))))∧
 Q (.tup [(.vec 8 (a) (.tail 0 (List.length a))),(.vec 8 (b) (.tail 1 (List.length b)))]) ⟨[(.cells [(.val (.int .i64 (AtV.o y))),(.vec 1 (iV (AtV.p y)) .none),(.val (.int .u32 (AtV.h y))),(.val (.int .i64 (AtV.m y))),(.val (.bool (AtV.hm y)))])], [((List.length a),(8,true)),((List.length b),(8,true))]⟩)):=by kernel_rfl
theorem DK (y:AtV) (L a b a2 b2:Bs) (tk:Tok) (z n:Int) (x:AtV) (g ok:Bool) (j k2 k3:Nat) (tl2 tl3:eo) (Q:Exit→List TV→VT→List Nat→Nat→Prop):vx Tryz.prog ae (aw [(sK,Bq y.cells ok)]) (aA [(999998, .dead,none),(14, .elt (az z n x g),none),(22, .vec 8 a2 (.tail 0 k2),some fun T=>{T with tails:=tl2}),(26, .vec 8 b2 (.tail 1 k3),some fun T=>{T with tails:=tl3})]) 300 aD none 0 (bd Tryz.prog gu 0) (aj 30 lC (er lB L tk a b j)) (gV [.cells y.cells] a.length b.length) [] (bA lC Q)=
 (bif decide ((↑j:Int)<(↑(List.length L):Int))
 then (ax Tryz.prog (fun _=> .none) (.indexAddr 22 (.tmp 10) (.tmp 12)) [(10,(.vec 8 (L) (tk))),(12,(.val (.int .i64 ((↑j:Int)))))] (.elt [(.val (.int .u32 (z))),(.val (.int .i64 (n))),(.val (.int .i64 (AtV.o x))),(.vec 1 (iV (AtV.p x)) .none),(.val (.int .u32 (AtV.h x))),(.val (.int .i64 (AtV.m x))),(.val (.bool (AtV.hm x))),(.val (.bool (g)))])∧
 (((@Eq (Bool) true true)∧
 ((@Eq (Option VO) (.some (.cells [(.val (.int .i64 (AtV.o y))),(.vec 1 (iV (AtV.p y)) .none),(.val (.int .u32 (AtV.h y))),(.val (.int .i64 (AtV.m y))),(.val (.bool (AtV.hm y)))])) (.some (.cells [(.val (.int .i64 (AtV.o y))),(.vec 1 (iV (AtV.p y)) .none),(.val (.int .u32 (AtV.h y))),(.val (.int .i64 (AtV.m y))),(.val (.bool (AtV.hm y)))])))∧
 Li [(.val (.int .i64 (AtV.o y))),(.vec 1 (iV (AtV.p y)) .none),(.val (.int .u32 (AtV.h y))),(.val (.int .i64 (AtV.m y))),(.val (.bool (AtV.hm y)))] [(.val (.int .u32 (z))),(.val (.int .i64 (n))),(.val (.int .i64 (AtV.o x))),(.vec 1 (iV (AtV.p x)) .none),(.val (.int .u32 (AtV.h x))),(.val (.int .i64 (AtV.m x))),(.val (.bool (AtV.hm x))),(.val (.bool (g)))] (ok)))∧
 (bif ok
 then (aB Tryz.prog (fun _=> .none) 0 ⟨[(.cells [(.val (.int .i64 (AtV.o y))),(.vec 1 (iV (AtV.p y)) .none),(.val (.int .u32 (AtV.h y))),(.val (.int .i64 (AtV.m y))),(.val (.bool (AtV.hm y)))]),(.cells [(.val (.int .u32 (z))),(.val (.int .i64 (n))),(.val (.int .i64 (AtV.o x))),(.vec 1 (iV (AtV.p x)) .none),(.val (.int .u32 (AtV.h x))),(.val (.int .i64 (AtV.m x))),(.val (.bool (AtV.hm x))),(.val (.bool (g)))])], [((List.length a),(8,true)),((List.length b),(8,true))]⟩ (.call ⟨(.builtin .append), #[(.tmp 19),(.tmp 21)], #[22,22]⟩) [(19,(.vec 8 (a) (.tail 0 (List.length a)))),(21,(.vec 8 [[(.val (.int .u32 (z))),(.val (.int .i64 (n))),(.val (.int .i64 (AtV.o x))),(.vec 1 (iV (AtV.p x)) .none),(.val (.int .u32 (AtV.h x))),(.val (.int .i64 (AtV.m x))),(.val (.bool (AtV.hm x))),(.val (.bool (g)))]] .full))] (.vec 8 (a2) (.tail 0 (k2))) ⟨[(.cells [(.val (.int .i64 (AtV.o y))),(.vec 1 (iV (AtV.p y)) .none),(.val (.int .u32 (AtV.h y))),(.val (.int .i64 (AtV.m y))),(.val (.bool (AtV.hm y)))]),(.cells [(.val (.int .u32 (z))),(.val (.int .i64 (n))),(.val (.int .i64 (AtV.o x))),(.vec 1 (iV (AtV.p x)) .none),(.val (.int .u32 (AtV.h x))),(.val (.int .i64 (AtV.m x))),(.val (.bool (AtV.hm x))),(.val (.bool (g)))])],(tl2)⟩∧
 Q .normal [(.fn (.func 22) [] [(.ptr 0 0)]),(.vec 8 (a2) (.tail 0 (k2))),(.vec 8 (b) (.tail 1 (List.length b))),(.vec 8 (L) (tk)),(.val (.int .i64 ((↑(List.length L):Int)))),(.val (.int .i64 (IntKind.wrap IntKind.i64 ((↑j:Int)+(1:Int)))))] ⟨[(.cells [(.val (.int .i64 (AtV.o y))),(.vec 1 (iV (AtV.p y)) .none),(.val (.int .u32 (AtV.h y))),(.val (.int .i64 (AtV.m y))),(.val (.bool (AtV.hm y)))]),(.cells [(.val (.int .u32 (z))),(.val (.int .i64 (n))),(.val (.int .i64 (AtV.o x))),(.vec 1 (iV (AtV.p x)) .none),(.val (.int .u32 (AtV.h x))),(.val (.int .i64 (AtV.m x))),(.val (.bool (AtV.hm x))),(.val (.bool (g)))])],(tl2)⟩ [] 30)
 else (aB Tryz.prog (fun _=> .none) 0 ⟨[(.cells [(.val (.int .i64 (AtV.o y))),(.vec 1 (iV (AtV.p y)) .none),(.val (.int .u32 (AtV.h y))),(.val (.int .i64 (AtV.m y))),(.val (.bool (AtV.hm y)))]),(.cells [(.val (.int .u32 (z))),(.val (.int .i64 (n))),(.val (.int .i64 (AtV.o x))),(.vec 1 (iV (AtV.p x)) .none),(.val (.int .u32 (AtV.h x))),(.val (.int .i64 (AtV.m x))),(.val (.bool (AtV.hm x))),(.val (.bool (g)))])], [((List.length a),(8,true)),((List.length b),(8,true))]⟩ (.call ⟨(.builtin .append), #[(.tmp 23),(.tmp 25)], #[22,22]⟩) [(23,(.vec 8 (b) (.tail 1 (List.length b)))),(25,(.vec 8 [[(.val (.int .u32 (z))),(.val (.int .i64 (n))),(.val (.int .i64 (AtV.o x))),(.vec 1 (iV (AtV.p x)) .none),(.val (.int .u32 (AtV.h x))),(.val (.int .i64 (AtV.m x))),(.val (.bool (AtV.hm x))),(.val (.bool (g)))]] .full))] (.vec 8 (b2) (.tail 1 (k3))) ⟨[(.cells [(.val (.int .i64 (AtV.o y))),(.vec 1 (iV (AtV.p y)) .none),(.val (.int .u32 (AtV.h y))),(.val (.int .i64 (AtV.m y))),(.val (.bool (AtV.hm y)))]),(.cells [(.val (.int .u32 (z))),(.val (.int .i64 (n))),(.val (.int .i64 (AtV.o x))),(.vec 1 (iV (AtV.p x)) .none),(.val (.int .u32 (AtV.h x))),(.val (.int .i64 (AtV.m x))),(.val (.bool (AtV.hm x))),(.val (.bool (g)))])],(tl3)⟩∧
 Q .normal [(.fn (.func 22) [] [(.ptr 0 0)]),(.vec 8 (a) (.tail 0 (List.length a))),(.vec 8 (b2) (.tail 1 (k3))),(.vec 8 (L) (tk)),(.val (.int .i64 ((↑(List.length L):Int)))),(.val (.int .i64 (IntKind.wrap IntKind.i64 ((↑j:Int)+(1:Int)))))] ⟨[(.cells [(.val (.int .i64 (AtV.o y))),(.vec 1 (iV (AtV.p y)) .none),(.val (.int .u32 (AtV.h y))),(.val (.int .i64 (AtV.m y))),(.val (.bool (AtV.hm y)))]),(.cells [(.val (.int .u32 (z))),(.val (.int .i64 (n))),(.val (.int .i64 (AtV.o x))),(.vec 1 (iV (AtV.p x)) .none),(.val (.int .u32 (AtV.h x))),(.val (.int .i64 (AtV.m x))),(.val (.bool (AtV.hm x))),(.val (.bool (g)))])],(tl3)⟩ [] 30))))
 else Q (.exit 0) [(.fn (.func 22) [] [(.ptr 0 0)]),(.vec 8 (a) (.tail 0 (List.length a))),(.vec 8 (b) (.tail 1 (List.length b))),(.vec 8 (L) (tk)),(.val (.int .i64 ((↑(List.length L):Int)))),(.val (.int .i64 ((↑j:Int))))] ⟨[(.cells [(.val (.int .i64 (AtV.o y))),(.vec 1 (iV (AtV.p y)) .none),(.val (.int .u32 (AtV.h y))),(.val (.int .i64 (AtV.m y))),(.val (.bool (AtV.hm y)))])], [((List.length a),(8,true)),((List.length b),(8,true))]⟩ [] 30):=by kernel_rfl
theorem Nz (L p:Bs) (tk:Tok) (Q:TV→VT→Prop):aq Tryz.prog ae aR (aA [(999998, .dead,none)]) 300 (OQ L tk p (am Tryz.prog ql 0)) 0 ql [.vec 8 L tk] ⟨[], []⟩ Q=
 ((am Tryz.prog ql (0:Nat)=am Tryz.prog ql (0:Nat))∧
 (((@Eq (Option Nat) .none .none)∧
 ((@Eq (Nat) 0 0)∧
 ((@Eq (List Nat) [] [])∧
 (((@Eq (Option TV) (.some (.val (.slice .none 0 0))) (.some (.val (.slice .none 0 0))))∧
 True)∧
 ((@Eq (VT) ⟨[], [(0,(2,true))]⟩ ⟨[], [(0,(2,true))]⟩)∧
 ((@Eq (Bool) true true)∧
 (@Eq (List TV) [(.vec 2 [] (.tail 0 0)),(.vec 8 (L) (tk)),(.val (.int .i64 ((↑(List.length L):Int)))),(.val (.int .i64 0))] [(.vec 2 [] (.tail 0 0)),(.vec 8 (L) (tk)),(.val (.int .i64 ((↑(List.length L):Int)))),(.val (.int .i64 0))])))))))∧
 Q (.vec 2 (p) (.tail 0 (List.length p))) ⟨[], [((List.length p),(2,true))]⟩)):=by kernel_rfl
theorem DL (L p p2:Bs) (tk:Tok) (z n:Int) (x:AtV) (g:Bool) (j k2:Nat) (tl2:eo) (Q:Exit→List TV→VT→List Nat→Nat→Prop):vx Tryz.prog ae aR (aA [(999998, .dead,none),(10, .elt (az z n x g),none),(16, .vec 2 p2 (.tail 0 k2),some fun T=>{T with tails:=tl2})]) 300 aD none 0 (bd Tryz.prog ql 0) (aj 19 xz (qm L tk p j)) (u7 p.length) [] (bA xz Q)=
 (bif decide ((↑j:Int)<(↑(List.length L):Int))
 then (ax Tryz.prog (fun _=> .none) (.indexAddr 22 (.tmp 6) (.tmp 8)) [(6,(.vec 8 (L) (tk))),(8,(.val (.int .i64 ((↑j:Int)))))] (.elt [(.val (.int .u32 (z))),(.val (.int .i64 (n))),(.val (.int .i64 (AtV.o x))),(.vec 1 (iV (AtV.p x)) .none),(.val (.int .u32 (AtV.h x))),(.val (.int .i64 (AtV.m x))),(.val (.bool (AtV.hm x))),(.val (.bool (g)))])∧
 (aB Tryz.prog (fun _=> .none) 0 ⟨[(.cells [(.val (.int .u32 (z))),(.val (.int .i64 (n))),(.val (.int .i64 (AtV.o x))),(.vec 1 (iV (AtV.p x)) .none),(.val (.int .u32 (AtV.h x))),(.val (.int .i64 (AtV.m x))),(.val (.bool (AtV.hm x))),(.val (.bool (g)))])], [((List.length p),(2,true))]⟩ (.call ⟨(.builtin .append), #[(.tmp 12),(.tmp 15)], #[32,32]⟩) [(12,(.vec 2 (p) (.tail 0 (List.length p)))),(15,(.vec 2 [[(.val (.int .u32 (z))),(.val (.int .i64 (n)))]] .full))] (.vec 2 (p2) (.tail 0 (k2))) ⟨[(.cells [(.val (.int .u32 (z))),(.val (.int .i64 (n))),(.val (.int .i64 (AtV.o x))),(.vec 1 (iV (AtV.p x)) .none),(.val (.int .u32 (AtV.h x))),(.val (.int .i64 (AtV.m x))),(.val (.bool (AtV.hm x))),(.val (.bool (g)))])],(tl2)⟩∧
 Q .normal [(.vec 2 (p2) (.tail 0 (k2))),(.vec 8 (L) (tk)),(.val (.int .i64 ((↑(List.length L):Int)))),(.val (.int .i64 (IntKind.wrap IntKind.i64 ((↑j:Int)+(1:Int)))))] ⟨[(.cells [(.val (.int .u32 (z))),(.val (.int .i64 (n))),(.val (.int .i64 (AtV.o x))),(.vec 1 (iV (AtV.p x)) .none),(.val (.int .u32 (AtV.h x))),(.val (.int .i64 (AtV.m x))),(.val (.bool (AtV.hm x))),(.val (.bool (g)))])],(tl2)⟩ [] 19))
 else Q (.exit 0) [(.vec 2 (p) (.tail 0 (List.length p))),(.vec 8 (L) (tk)),(.val (.int .i64 ((↑(List.length L):Int)))),(.val (.int .i64 ((↑j:Int))))] ⟨[], [((List.length p),(2,true))]⟩ [] 19):=by kernel_rfl
theorem NA (L p:Bs) (tk:Tok) (z n:Int) (x:AtV) (g:Bool) (Q:TV→VT→Prop):aq Tryz.prog ae (aw [(ql,Lo p)]) (aA [(999998, .dead,none),(4, .elt (az z n x g),none),(11, .elt (az z n x g),none)]) 300 aD 0 xy [.vec 8 L tk] ⟨[], []⟩ Q=
 (ax Tryz.prog (fun _=> .none) (.indexAddr 22 (.tmp 3) (.const (.int .i64 0))) [(3,(.vec 8 (L) (tk)))] (.elt [(.val (.int .u32 (z))),(.val (.int .i64 (n))),(.val (.int .i64 (AtV.o x))),(.vec 1 (iV (AtV.p x)) .none),(.val (.int .u32 (AtV.h x))),(.val (.int .i64 (AtV.m x))),(.val (.bool (AtV.hm x))),(.val (.bool (g)))])∧
 (bif g
 then (FH (L) (p)∧
 Q (.agg [(.vec 2 (p) .none),(.val (.int .i64 0)),(.val (.slice .none 0 0)),(.val (.int .u32 0)),(.val (.int .i64 0)),(.val (.bool false)),(.val (.slice .none 0 0))]) ⟨[(.cells [(.vec 2 (p) .none),(.val (.int .i64 0)),(.val (.slice .none 0 0)),(.val (.int .u32 0)),(.val (.int .i64 0)),(.val (.bool false)),(.val (.slice .none 0 0))])], []⟩)
 else (ax Tryz.prog (fun _=> .none) (.indexAddr 22 (.tmp 10) (.const (.int .i64 0))) [(10,(.vec 8 (L) (tk)))] (.elt [(.val (.int .u32 (z))),(.val (.int .i64 (n))),(.val (.int .i64 (AtV.o x))),(.vec 1 (iV (AtV.p x)) .none),(.val (.int .u32 (AtV.h x))),(.val (.int .i64 (AtV.m x))),(.val (.bool (AtV.hm x))),(.val (.bool (g)))])∧
 (FH (L) (p)∧
 (((@Eq (Option TV) (.some (.agg [(.val (.int .i64 (AtV.o x))),(.vec 1 (iV (AtV.p x)) .none),(.val (.int .u32 (AtV.h x))),(.val (.int .i64 (AtV.m x))),(.val (.bool (AtV.hm x)))])) (.some (.agg [(.val (.int .i64 (AtV.o x))),(.vec 1 (iV (AtV.p x)) .none),(.val (.int .u32 (AtV.h x))),(.val (.int .i64 (AtV.m x))),(.val (.bool (AtV.hm x)))])))∧
 True)∧
 Q (.agg [(.val (.slice .none 0 0)),(.val (.int .i64 (AtV.o x))),(.vec 1 (iV (AtV.p x)) .none),(.val (.int .u32 (AtV.h x))),(.val (.int .i64 (AtV.m x))),(.val (.bool (AtV.hm x))),(.vec 2 (p) .none)]) ⟨[(.cells [(.val (.slice .none 0 0)),(.val (.int .i64 (AtV.o x))),(.vec 1 (iV (AtV.p x)) .none),(.val (.int .u32 (AtV.h x))),(.val (.int .i64 (AtV.m x))),(.val (.bool (AtV.hm x))),(.vec 2 (p) .none)])], []⟩))))):=by kernel_rfl
theorem NB (L w n:Bs) (tk:Tok) (x:AtV) (z:Int) (Q:TV→VT→Prop):aq Tryz.prog ae (aw [(xy,DI w x n),(Gy,Lx z)]) (aA [(999998, .dead,none)]) 300 aD 0 sI [.vec 8 L tk, .ptr 0 0] ⟨[ly], []⟩ Q=
 (FI (L) (w) (x) (n)∧
 (Ll [(.vec 2 (w) .none),(.val (.int .i64 (AtV.o x))),(.vec 1 (iV (AtV.p x)) .none),(.val (.int .u32 (AtV.h x))),(.val (.int .i64 (AtV.m x))),(.val (.bool (AtV.hm x))),(.vec 2 (n) .none)] (z)∧
 Q (.val (.bool (decide (z≤(4077:Int))))) ⟨[(.cells [(.fn (.func 37) [] [])])], []⟩)):=by kernel_rfl
theorem NC (L o:Bs) (tk:Tok) (Q:TV→VT→Prop):aq Tryz.prog ae aR (aA [(999998, .dead,none)]) 300 (OS L tk o (am Tryz.prog ir 0)) 0 ir [.vec 8 L tk,zv] ⟨[ly], []⟩ Q=
 ((am Tryz.prog ir (0:Nat)=am Tryz.prog ir (0:Nat))∧
 (((@Eq (Option Nat) .none .none)∧
 ((@Eq (Nat) 0 0)∧
 ((@Eq (List Nat) [] [])∧
 (((@Eq (Option TV) (.some (.val (.slice .none 0 0))) (.some (.val (.slice .none 0 0))))∧
 True)∧
 ((@Eq (VT) ⟨[(.cells [(.fn (.func 37) [] [])])], [(0,(1,true))]⟩ ⟨[(.cells [(.fn (.func 37) [] [])])], [(0,(1,true))]⟩)∧
 ((@Eq (Bool) true true)∧
 (@Eq (List TV) [(.vec 8 (L) (tk)),(.fn (.func 40) [] [(.ptr 0 0)]),(.vec 1 [] (.tail 0 0))] [(.vec 8 (L) (tk)),(.fn (.func 40) [] [(.ptr 0 0)]),(.vec 1 [] (.tail 0 0))])))))))∧
 Q (.vec 1 (o) (.tail 0 (List.length o))) ⟨[(.cells [(.fn (.func 37) [] [])])], [((List.length o),(1,true))]⟩)):=by kernel_rfl
theorem DM (l l2 c1 o o2:Bs) (tk:Tok) (k k2:Nat) (tl2:eo) (Q:Exit→List TV→VT→List Nat→Nat→Prop):vx Tryz.prog ae aR (aA [(999998, .dead,none),(28, .vec 8 c1 .none,none),(33, .vec 8 l2 tk,none),(30, .vec 1 o2 (.tail 0 k2),some fun T=>{T with tails:=tl2})]) 300 (OT l tk o k (am Tryz.prog ir 2)) none 0 (bd Tryz.prog ir 0) (aj 35 xA (sL l tk o)) (ii o.length) [] (bA xA Q)=
 (bif decide ((↑(List.length l):Int)>(0:Int))
 then ((am Tryz.prog ir (2:Nat)=am Tryz.prog ir (2:Nat))∧
 (((@Eq (Option Nat) .none .none)∧
 ((@Eq (Nat) 0 0)∧
 ((@Eq (List Nat) [] [])∧
 (True  ∧
 ((@Eq (VT) ⟨[(.cells [(.fn (.func 37) [] [])])], [((List.length o),(1,true))]⟩ ⟨[(.cells [(.fn (.func 37) [] [])])], [((List.length o),(1,true))]⟩)∧
 ((@Eq (Bool) true true)∧
 (@Eq (List TV) [(.vec 8 (l) (tk)),(.fn (.func 40) [] [(.ptr 0 0)]),(.vec 1 (o) (.tail 0 (List.length o))),(.val (.int .i64 1))] [(.vec 8 (l) (tk)),(.fn (.func 40) [] [(.ptr 0 0)]),(.vec 1 (o) (.tail 0 (List.length o))),(.val (.int .i64 1))])))))))∧
 (ax Tryz.prog (fun _=> .none) (.slice 22 (.tmp 25) .none (.some (.tmp 26)) (.some (.tmp 27))) [(25,(.vec 8 (l) (tk))),(26,(.val (.int .i64 ((↑k:Int))))),(27,(.val (.int .i64 ((↑k:Int)))))] (.vec 8 (c1) .none)∧
 (ax Tryz.prog (fun _=> .none) (.slice 22 (.tmp 31) (.some (.tmp 32)) .none .none) [(31,(.vec 8 (l) (tk))),(32,(.val (.int .i64 ((↑k:Int)))))] (.vec 8 (l2) (tk))∧
 (aB Tryz.prog (fun _=> .none) 0 ⟨[(.cells [(.fn (.func 37) [] [])])], [((List.length o),(1,true))]⟩ (.call ⟨(.builtin .append), #[(.tmp 24),(.tmp 29)], #[76,76]⟩) [(24,(.vec 1 (o) (.tail 0 (List.length o)))),(29,(.vec 1 [[(.vec 8 (c1) .none)]] .full))] (.vec 1 (o2) (.tail 0 (k2))) ⟨[(.cells [(.fn (.func 37) [] [])])],(tl2)⟩∧
 Q .normal [(.vec 8 (l2) (tk)),(.fn (.func 40) [] [(.ptr 0 0)]),(.vec 1 (o2) (.tail 0 (k2)))] ⟨[(.cells [(.fn (.func 37) [] [])])],(tl2)⟩ [] 35)))))
 else Q (.exit 0) [(.vec 8 (l) (tk)),(.fn (.func 40) [] [(.ptr 0 0)]),(.vec 1 (o) (.tail 0 (List.length o)))] ⟨[(.cells [(.fn (.func 37) [] [])])], [((List.length o),(1,true))]⟩ [] 35):=by kernel_rfl
theorem DN (l l1 o:Bs) (tk:Tok) (k:Nat) (b:Bool) (Q:Exit→List TV→VT→List Nat→Nat→Prop):vx Tryz.prog ae (aw [(sI,Gz b)]) (aA [(999998, .dead,none),(19, .vec 8 l1 .none,none)]) 300 aD none 0 (bd Tryz.prog ir 2) (aj 35 qn (oX l tk o k)) (ii o.length) [] (bA qn Q)=
 (bif decide ((↑k:Int)<(↑(List.length l):Int))
 then (ax Tryz.prog (fun _=> .none) (.slice 22 (.tmp 16) .none (.some (.tmp 18)) .none) [(16,(.vec 8 (l) (tk))),(18,(.val (.int .i64 (IntKind.wrap IntKind.i64 ((↑k:Int)+(1:Int))))))] (.vec 8 (l1) .none)∧
 (((@Eq (Bool) true true)∧
 ((@Eq (Option VO) (.some (.cells [(.fn (.func 37) [] [])])) (.some (.cells [(.fn (.func 37) [] [])])))∧
 Lb (l1) (b)))∧
 (bif b
 then Q .normal [(.vec 8 (l) (tk)),(.fn (.func 40) [] [(.ptr 0 0)]),(.vec 1 (o) (.tail 0 (List.length o))),(.val (.int .i64 (IntKind.wrap IntKind.i64 ((↑k:Int)+(1:Int)))))] ⟨[(.cells [(.fn (.func 37) [] [])])], [((List.length o),(1,true))]⟩ [] 35
 else Q (.exit 2) [(.vec 8 (l) (tk)),(.fn (.func 40) [] [(.ptr 0 0)]),(.vec 1 (o) (.tail 0 (List.length o))),(.val (.int .i64 ((↑k:Int))))] ⟨[(.cells [(.fn (.func 37) [] [])])], [((List.length o),(1,true))]⟩ [] 35)))
 else Q (.exit 2) [(.vec 8 (l) (tk)),(.fn (.func 40) [] [(.ptr 0 0)]),(.vec 1 (o) (.tail 0 (List.length o))),(.val (.int .i64 ((↑k:Int))))] ⟨[(.cells [(.fn (.func 37) [] [])])], [((List.length o),(1,true))]⟩ [] 35):=by kernel_rfl
theorem ND (L C u:Bs) (tk:Tok) (Q:TV→VT→Prop):aq Tryz.prog ae (aw [(ir,Lp C)]) (aA [(999998, .dead,none)]) 300 (OU C u (am Tryz.prog lv 0)) 0 lv [.vec 8 L tk] ⟨[], []⟩ Q=
 (((@Eq (Nat) sI sI)∧
 ((@Eq (Bool) true true)∧
 ((@Eq (Option VO) (.some (.cells [(.fn (.func 37) [] [])])) (.some (.cells [(.fn (.func 37) [] [])])))∧
 Lc (L) (C))))∧
 ((am Tryz.prog lv (0:Nat)=am Tryz.prog lv (0:Nat))∧
 (((@Eq (Option Nat) .none .none)∧
 ((@Eq (Nat) 0 0)∧
 ((@Eq (List Nat) [] [])∧
 (((@Eq (Option TV) (.some (.val (.slice .none 0 0))) (.some (.val (.slice .none 0 0))))∧
 True)∧
 ((@Eq (VT) ⟨[(.cells [(.fn (.func 37) [] [])])], [(0,(7,true))]⟩ ⟨[(.cells [(.fn (.func 37) [] [])])], [(0,(7,true))]⟩)∧
 ((@Eq (Bool) true true)∧
 (@Eq (List TV) [(.ptr 0 0),(.vec 7 [] (.tail 0 0)),(.vec 1 (C) .none),(.val (.int .i64 ((↑(List.length C):Int)))),(.val (.int .i64 0))] [(.ptr 0 0),(.vec 7 [] (.tail 0 0)),(.vec 1 (C) .none),(.val (.int .i64 ((↑(List.length C):Int)))),(.val (.int .i64 0))])))))))∧
 Q (.vec 7 (u) (.tail 0 (List.length u))) ⟨[(.cells [(.fn (.func 37) [] [])])], [((List.length u),(7,true))]⟩))):=by kernel_rfl
theorem DO (C u u2 c w n:Bs) (x:AtV) (j k2:Nat) (tl2:eo) (Q:Exit→List TV→VT→List Nat→Nat→Prop):vx Tryz.prog ae (aw [(xy,DI w x n)]) (aA [(999998, .dead,none),(13, .elt [.vec 8 c .none],none),(20, .vec 7 u2 (.tail 0 k2),some fun T=>{T with tails:=tl2})]) 300 aD none 0 (bd Tryz.prog lv 0) (aj 23 u9 (oY C u j)) (sM u.length) [] (bA u9 Q)=
 (bif decide ((↑j:Int)<(↑(List.length C):Int))
 then (ax Tryz.prog (fun _=> .none) (.indexAddr 76 (.tmp 9) (.tmp 11)) [(9,(.vec 1 (C) .none)),(11,(.val (.int .i64 ((↑j:Int)))))] (.elt [(.vec 8 (c) .none)])∧
 (FI (c) (w) (x) (n)∧
 (aB Tryz.prog (fun _=> .none) 0 ⟨[(.cells [(.fn (.func 37) [] [])])], [((List.length u),(7,true))]⟩ (.call ⟨(.builtin .append), #[(.tmp 15),(.tmp 19)], #[25,25]⟩) [(15,(.vec 7 (u) (.tail 0 (List.length u)))),(19,(.vec 7 [[(.vec 2 (w) .none),(.val (.int .i64 (AtV.o x))),(.vec 1 (iV (AtV.p x)) .none),(.val (.int .u32 (AtV.h x))),(.val (.int .i64 (AtV.m x))),(.val (.bool (AtV.hm x))),(.vec 2 (n) .none)]] .full))] (.vec 7 (u2) (.tail 0 (k2))) ⟨[(.cells [(.fn (.func 37) [] [])])],(tl2)⟩∧
 Q .normal [(.ptr 0 0),(.vec 7 (u2) (.tail 0 (k2))),(.vec 1 (C) .none),(.val (.int .i64 ((↑(List.length C):Int)))),(.val (.int .i64 (IntKind.wrap IntKind.i64 ((↑j:Int)+(1:Int)))))] ⟨[(.cells [(.fn (.func 37) [] [])])],(tl2)⟩ [] 23)))
 else Q (.exit 0) [(.ptr 0 0),(.vec 7 (u) (.tail 0 (List.length u))),(.vec 1 (C) .none),(.val (.int .i64 ((↑(List.length C):Int)))),(.val (.int .i64 ((↑j:Int))))] ⟨[(.cells [(.fn (.func 37) [] [])])], [((List.length u),(7,true))]⟩ [] 23):=by kernel_rfl
theorem NE (L a b u0 u:Bs) (tk:Tok) (R:Bs→Bs) (Q:TV→VT→Prop):aq Tryz.prog ae (aw [(e6,Ls R),(gu,Lq a b),(lv,Lr u0)]) (aA [(999998, .dead,none)]) 300 (OV b u0 u (am Tryz.prog qk 0)) 0 qk [.vec 8 L tk] ⟨[], []⟩ Q=
 (Lf (L)∧
 (((@Eq (Nat) sJ sJ)∧
 Ld (R L) (a) (b))∧
 (((@Eq (Nat) 0 0)∧
 Bo (a) (u0))∧
 ((am Tryz.prog qk (0:Nat)=am Tryz.prog qk (0:Nat))∧
 (((@Eq (Option Nat) .none .none)∧
 ((@Eq (Nat) 0 0)∧
 ((@Eq (List Nat) [] [])∧
 (True  ∧
 ((@Eq (VT) ⟨[], [((List.length u0),(7,true))]⟩ ⟨[], [((List.length u0),(7,true))]⟩)∧
 ((@Eq (Bool) true true)∧
 (@Eq (List TV) [(.vec 8 (b) .none),(.vec 7 (u0) (.tail 0 (List.length u0)))] [(.vec 8 (b) .none),(.vec 7 (u0) (.tail 0 (List.length u0)))])))))))∧
 Q (.vec 7 (u) (.tail 0 (List.length u))) ⟨[], [((List.length u),(7,true))]⟩))))):=by kernel_rfl
theorem DP (l a b u u1 u2:Bs) (z n:Int) (x:AtV) (g:Bool) (k2:Nat) (tl2:eo) (Q:Exit→List TV→VT→List Nat→Nat→Prop):vx Tryz.prog ae (aw [(gu,GA x a b),(lv,GB u1)]) (aA [(999998, .dead,none),(20, .elt (az z n x g),none),(32, .vec 7 u2 (.tail 0 k2),some fun T=>{T with tails:=tl2})]) 300 aD none 0 (bd Tryz.prog qk 0) (aj 34 xB (sN l u)) (va u.length) [] (bA xB Q)=
 (bif decide ((↑(List.length l):Int)>(0:Int))
 then (ax Tryz.prog (fun _=> .none) (.indexAddr 22 (.tmp 19) (.const (.int .i64 0))) [(19,(.vec 8 (l) .none))] (.elt [(.val (.int .u32 (z))),(.val (.int .i64 (n))),(.val (.int .i64 (AtV.o x))),(.vec 1 (iV (AtV.p x)) .none),(.val (.int .u32 (AtV.h x))),(.val (.int .i64 (AtV.m x))),(.val (.bool (AtV.hm x))),(.val (.bool (g)))])∧
 (((@Eq (Nat) sK sK)∧
 ((@Eq (Bool) true true)∧
 ((@Eq (Option VO) (.some (.cells [(.val (.int .i64 (AtV.o x))),(.vec 1 (iV (AtV.p x)) .none),(.val (.int .u32 (AtV.h x))),(.val (.int .i64 (AtV.m x))),(.val (.bool (AtV.hm x)))])) (.some (.cells [(.val (.int .i64 (AtV.o x))),(.vec 1 (iV (AtV.p x)) .none),(.val (.int .u32 (AtV.h x))),(.val (.int .i64 (AtV.m x))),(.val (.bool (AtV.hm x)))])))∧
 Le (x) (l) (a) (b))))∧
 (Bo (a) (u1)∧
 (aB Tryz.prog (fun _=> .none) 0 ⟨[(.cells [(.val (.int .i64 (AtV.o x))),(.vec 1 (iV (AtV.p x)) .none),(.val (.int .u32 (AtV.h x))),(.val (.int .i64 (AtV.m x))),(.val (.bool (AtV.hm x)))])], [((List.length u),(7,true))]⟩ (.call ⟨(.builtin .append), #[(.tmp 29),(.tmp 31)], #[25,25]⟩) [(29,(.vec 7 (u) (.tail 0 (List.length u)))),(31,(.vec 7 (u1) .none))] (.vec 7 (u2) (.tail 0 (k2))) ⟨[(.cells [(.val (.int .i64 (AtV.o x))),(.vec 1 (iV (AtV.p x)) .none),(.val (.int .u32 (AtV.h x))),(.val (.int .i64 (AtV.m x))),(.val (.bool (AtV.hm x)))])],(tl2)⟩∧
 Q .normal [(.vec 8 (b) .none),(.vec 7 (u2) (.tail 0 (k2)))] ⟨[(.cells [(.val (.int .i64 (AtV.o x))),(.vec 1 (iV (AtV.p x)) .none),(.val (.int .u32 (AtV.h x))),(.val (.int .i64 (AtV.m x))),(.val (.bool (AtV.hm x)))])],(tl2)⟩ [] 34))))
 else Q (.exit 0) [(.vec 8 (l) .none),(.vec 7 (u) (.tail 0 (List.length u)))] ⟨[], [((List.length u),(7,true))]⟩ [] 34):=by kernel_rfl
theorem NF (l U:Bs) (tk:Tok) (Q:TV→VT→Prop):aq Tryz.prog ae aR (aA [(999998, .dead,none)]) 300 (OW l U tk (am Tryz.prog ge 0)) 0 ge [.vec 7 U tk] ⟨[], []⟩ Q=
 ((am Tryz.prog ge (0:Nat)=am Tryz.prog ge (0:Nat))∧
 (((@Eq (Option Nat) .none .none)∧
 ((@Eq (Nat) 0 0)∧
 ((@Eq (List Nat) [] [])∧
 (((@Eq (Option TV) (.some (.val (.slice .none 0 0))) (.some (.val (.slice .none 0 0))))∧
 True)∧
 ((@Eq (VT) ⟨[], [(0,(8,true))]⟩ ⟨[], [(0,(8,true))]⟩)∧
 ((@Eq (Bool) true true)∧
 (@Eq (List TV) [(.vec 8 [] (.tail 0 0)),(.vec 7 (U) (tk)),(.val (.int .i64 ((↑(List.length U):Int)))),(.val (.int .i64 0))] [(.vec 8 [] (.tail 0 0)),(.vec 7 (U) (tk)),(.val (.int .i64 ((↑(List.length U):Int)))),(.val (.int .i64 0))])))))))∧
 Q (.vec 8 (l) (.tail 0 (List.length l))) ⟨[], [((List.length l),(8,true))]⟩)):=by kernel_rfl
theorem DQ (l l1 l2 U w n:Bs) (x:AtV) (tk:Tok) (j:Nat) (Q:Exit→List TV→VT→List Nat→Nat→Prop):vx Tryz.prog ae aR (aA [(999998, .dead,none),(14, .elt (aV w x n),none)]) 300 (OX l l1 l2 U tk j w x n (am Tryz.prog ge 2) (am Tryz.prog ge 4)) none 0 (bd Tryz.prog ge 0) (aj 46 sO (nO l U tk j)) (qp l.length) [] (bA sO Q)=
 (bif decide ((↑j:Int)<(↑(List.length U):Int))
 then (ax Tryz.prog (fun _=> .none) (.indexAddr 25 (.tmp 10) (.tmp 12)) [(10,(.vec 7 (U) (tk))),(12,(.val (.int .i64 ((↑j:Int)))))] (.elt [(.vec 2 (w) .none),(.val (.int .i64 (AtV.o x))),(.vec 1 (iV (AtV.p x)) .none),(.val (.int .u32 (AtV.h x))),(.val (.int .i64 (AtV.m x))),(.val (.bool (AtV.hm x))),(.vec 2 (n) .none)])∧
 ((am Tryz.prog ge (2:Nat)=am Tryz.prog ge (2:Nat))∧
 (((@Eq (Option Nat) .none .none)∧
 ((@Eq (Nat) 0 0)∧
 ((@Eq (List Nat) [] [])∧
 (True  ∧
 ((@Eq (VT) ⟨[(.cells [(.vec 2 (w) .none),(.val (.int .i64 (AtV.o x))),(.vec 1 (iV (AtV.p x)) .none),(.val (.int .u32 (AtV.h x))),(.val (.int .i64 (AtV.m x))),(.val (.bool (AtV.hm x))),(.vec 2 (n) .none)])], [((List.length l),(8,true))]⟩ ⟨[(.cells [(.vec 2 (w) .none),(.val (.int .i64 (AtV.o x))),(.vec 1 (iV (AtV.p x)) .none),(.val (.int .u32 (AtV.h x))),(.val (.int .i64 (AtV.m x))),(.val (.bool (AtV.hm x))),(.vec 2 (n) .none)])], [((List.length l),(8,true))]⟩)∧
 ((@Eq (Bool) true true)∧
 (@Eq (List TV) [(.vec 8 (l) (.tail 0 (List.length l))),(.ptr 0 0),(.vec 7 (U) (tk)),(.val (.int .i64 ((↑(List.length U):Int)))),(.val (.int .i64 ((↑j:Int)))),(.vec 2 (w) .none),(.val (.int .i64 ((↑(List.length w):Int)))),(.val (.int .i64 0))] [(.vec 8 (l) (.tail 0 (List.length l))),(.ptr 0 0),(.vec 7 (U) (tk)),(.val (.int .i64 ((↑(List.length U):Int)))),(.val (.int .i64 ((↑j:Int)))),(.vec 2 (w) .none),(.val (.int .i64 ((↑(List.length w):Int)))),(.val (.int .i64 0))])))))))∧
 ((am Tryz.prog ge (4:Nat)=am Tryz.prog ge (4:Nat))∧
 (((@Eq (Option Nat) .none .none)∧
 ((@Eq (Nat) 0 0)∧
 ((@Eq (List Nat) [] [])∧
 (True  ∧
 ((@Eq (VT) ⟨[(.cells [(.vec 2 (w) .none),(.val (.int .i64 (AtV.o x))),(.vec 1 (iV (AtV.p x)) .none),(.val (.int .u32 (AtV.h x))),(.val (.int .i64 (AtV.m x))),(.val (.bool (AtV.hm x))),(.vec 2 (n) .none)])], [((List.length l1),(8,true))]⟩ ⟨[(.cells [(.vec 2 (w) .none),(.val (.int .i64 (AtV.o x))),(.vec 1 (iV (AtV.p x)) .none),(.val (.int .u32 (AtV.h x))),(.val (.int .i64 (AtV.m x))),(.val (.bool (AtV.hm x))),(.vec 2 (n) .none)])], [((List.length l1),(8,true))]⟩)∧
 ((@Eq (Bool) true true)∧
 (@Eq (List TV) [(.vec 8 (l1) (.tail 0 (List.length l1))),(.ptr 0 0),(.vec 7 (U) (tk)),(.val (.int .i64 ((↑(List.length U):Int)))),(.val (.int .i64 ((↑j:Int)))),(.vec 2 (n) .none),(.val (.int .i64 ((↑(List.length n):Int)))),(.val (.int .i64 0))] [(.vec 8 (l1) (.tail 0 (List.length l1))),(.ptr 0 0),(.vec 7 (U) (tk)),(.val (.int .i64 ((↑(List.length U):Int)))),(.val (.int .i64 ((↑j:Int)))),(.vec 2 (n) .none),(.val (.int .i64 ((↑(List.length n):Int)))),(.val (.int .i64 0))])))))))∧
 Q .normal [(.vec 8 (l2) (.tail 0 (List.length l2))),(.vec 7 (U) (tk)),(.val (.int .i64 ((↑(List.length U):Int)))),(.val (.int .i64 (IntKind.wrap IntKind.i64 ((↑j:Int)+(1:Int)))))] ⟨[(.cells [(.vec 2 (w) .none),(.val (.int .i64 (AtV.o x))),(.vec 1 (iV (AtV.p x)) .none),(.val (.int .u32 (AtV.h x))),(.val (.int .i64 (AtV.m x))),(.val (.bool (AtV.hm x))),(.vec 2 (n) .none)])], [((List.length l2),(8,true))]⟩ [] 46)))))
 else Q (.exit 0) [(.vec 8 (l) (.tail 0 (List.length l))),(.vec 7 (U) (tk)),(.val (.int .i64 ((↑(List.length U):Int)))),(.val (.int .i64 ((↑j:Int))))] ⟨[], [((List.length l),(8,true))]⟩ [] 46):=by kernel_rfl
theorem DR (l l2 U w n v:Bs) (x:AtV) (tk:Tok) (a z:Int) (j i k2:Nat) (tl2:eo) (Q:Exit→List TV→VT→List Nat→Nat→Prop):vx Tryz.prog ae aR (aA [(999998, .dead,none),(21, .elt (cj (a,z)),none),(27, .vec 8 l2 (.tail 0 k2),some fun T=>{T with tails:=tl2})]) 300 aD none 0 (bd Tryz.prog ge 2) (aj 46 qr (vc l U tk j v i)) (fM w x n l.length) [] (bA qr Q)=
 (bif decide ((↑i:Int)<(↑(List.length v):Int))
 then (ax Tryz.prog (fun _=> .none) (.indexAddr 32 (.tmp 17) (.tmp 19)) [(17,(.vec 2 (v) .none)),(19,(.val (.int .i64 ((↑i:Int)))))] (.elt [(.val (.int .u32 (a))),(.val (.int .i64 (z)))])∧
 (aB Tryz.prog (fun _=> .none) 0 ⟨[(.cells [(.vec 2 (w) .none),(.val (.int .i64 (AtV.o x))),(.vec 1 (iV (AtV.p x)) .none),(.val (.int .u32 (AtV.h x))),(.val (.int .i64 (AtV.m x))),(.val (.bool (AtV.hm x))),(.vec 2 (n) .none)]),(.cells [(.val (.int .u32 (a))),(.val (.int .i64 (z)))])], [((List.length l),(8,true))]⟩ (.call ⟨(.builtin .append), #[(.tmp 23),(.tmp 26)], #[22,22]⟩) [(23,(.vec 8 (l) (.tail 0 (List.length l)))),(26,(.vec 8 [[(.val (.int .u32 (a))),(.val (.int .i64 (z))),(.val (.int .i64 0)),(.val (.slice .none 0 0)),(.val (.int .u32 0)),(.val (.int .i64 0)),(.val (.bool false)),(.val (.bool true))]] .full))] (.vec 8 (l2) (.tail 0 (k2))) ⟨[(.cells [(.vec 2 (w) .none),(.val (.int .i64 (AtV.o x))),(.vec 1 (iV (AtV.p x)) .none),(.val (.int .u32 (AtV.h x))),(.val (.int .i64 (AtV.m x))),(.val (.bool (AtV.hm x))),(.vec 2 (n) .none)]),(.cells [(.val (.int .u32 (a))),(.val (.int .i64 (z)))])],(tl2)⟩∧
 Q .normal [(.vec 8 (l2) (.tail 0 (k2))),(.ptr 0 0),(.vec 7 (U) (tk)),(.val (.int .i64 ((↑(List.length U):Int)))),(.val (.int .i64 ((↑j:Int)))),(.vec 2 (v) .none),(.val (.int .i64 ((↑(List.length v):Int)))),(.val (.int .i64 (IntKind.wrap IntKind.i64 ((↑i:Int)+(1:Int)))))] ⟨[(.cells [(.vec 2 (w) .none),(.val (.int .i64 (AtV.o x))),(.vec 1 (iV (AtV.p x)) .none),(.val (.int .u32 (AtV.h x))),(.val (.int .i64 (AtV.m x))),(.val (.bool (AtV.hm x))),(.vec 2 (n) .none)]),(.cells [(.val (.int .u32 (a))),(.val (.int .i64 (z)))])],(tl2)⟩ [] 46))
 else Q (.exit 2) [(.vec 8 (l) (.tail 0 (List.length l))),(.ptr 0 0),(.vec 7 (U) (tk)),(.val (.int .i64 ((↑(List.length U):Int)))),(.val (.int .i64 ((↑j:Int)))),(.vec 2 (v) .none),(.val (.int .i64 ((↑(List.length v):Int)))),(.val (.int .i64 ((↑i:Int))))] ⟨[(.cells [(.vec 2 (w) .none),(.val (.int .i64 (AtV.o x))),(.vec 1 (iV (AtV.p x)) .none),(.val (.int .u32 (AtV.h x))),(.val (.int .i64 (AtV.m x))),(.val (.bool (AtV.hm x))),(.vec 2 (n) .none)])], [((List.length l),(8,true))]⟩ [] 46):=by kernel_rfl
theorem DS (l l2 U w n v:Bs) (x:AtV) (tk:Tok) (a z:Int) (j i k2:Nat) (tl2:eo) (Q:Exit→List TV→VT→List Nat→Nat→Prop):vx Tryz.prog ae aR (aA [(999998, .dead,none),(34, .elt (cj (a,z)),none),(42, .vec 8 l2 (.tail 0 k2),some fun T=>{T with tails:=tl2})]) 300 aD none 0 (bd Tryz.prog ge 4) (aj 46 qt (vc l U tk j v i)) (fM w x n l.length) [] (bA qt Q)=
 (bif decide ((↑i:Int)<(↑(List.length v):Int))
 then (ax Tryz.prog (fun _=> .none) (.indexAddr 32 (.tmp 30) (.tmp 32)) [(30,(.vec 2 (v) .none)),(32,(.val (.int .i64 ((↑i:Int)))))] (.elt [(.val (.int .u32 (a))),(.val (.int .i64 (z)))])∧
 (aB Tryz.prog (fun _=> .none) 0 ⟨[(.cells [(.vec 2 (w) .none),(.val (.int .i64 (AtV.o x))),(.vec 1 (iV (AtV.p x)) .none),(.val (.int .u32 (AtV.h x))),(.val (.int .i64 (AtV.m x))),(.val (.bool (AtV.hm x))),(.vec 2 (n) .none)]),(.cells [(.val (.int .u32 (a))),(.val (.int .i64 (z)))])], [((List.length l),(8,true))]⟩ (.call ⟨(.builtin .append), #[(.tmp 36),(.tmp 41)], #[22,22]⟩) [(36,(.vec 8 (l) (.tail 0 (List.length l)))),(41,(.vec 8 [[(.val (.int .u32 (a))),(.val (.int .i64 (z))),(.val (.int .i64 (AtV.o x))),(.vec 1 (iV (AtV.p x)) .none),(.val (.int .u32 (AtV.h x))),(.val (.int .i64 (AtV.m x))),(.val (.bool (AtV.hm x))),(.val (.bool false))]] .full))] (.vec 8 (l2) (.tail 0 (k2))) ⟨[(.cells [(.vec 2 (w) .none),(.val (.int .i64 (AtV.o x))),(.vec 1 (iV (AtV.p x)) .none),(.val (.int .u32 (AtV.h x))),(.val (.int .i64 (AtV.m x))),(.val (.bool (AtV.hm x))),(.vec 2 (n) .none)]),(.cells [(.val (.int .u32 (a))),(.val (.int .i64 (z)))])],(tl2)⟩∧
 Q .normal [(.vec 8 (l2) (.tail 0 (k2))),(.ptr 0 0),(.vec 7 (U) (tk)),(.val (.int .i64 ((↑(List.length U):Int)))),(.val (.int .i64 ((↑j:Int)))),(.vec 2 (v) .none),(.val (.int .i64 ((↑(List.length v):Int)))),(.val (.int .i64 (IntKind.wrap IntKind.i64 ((↑i:Int)+(1:Int)))))] ⟨[(.cells [(.vec 2 (w) .none),(.val (.int .i64 (AtV.o x))),(.vec 1 (iV (AtV.p x)) .none),(.val (.int .u32 (AtV.h x))),(.val (.int .i64 (AtV.m x))),(.val (.bool (AtV.hm x))),(.vec 2 (n) .none)]),(.cells [(.val (.int .u32 (a))),(.val (.int .i64 (z)))])],(tl2)⟩ [] 46))
 else Q (.exit 4) [(.vec 8 (l) (.tail 0 (List.length l))),(.ptr 0 0),(.vec 7 (U) (tk)),(.val (.int .i64 ((↑(List.length U):Int)))),(.val (.int .i64 ((↑j:Int)))),(.vec 2 (v) .none),(.val (.int .i64 ((↑(List.length v):Int)))),(.val (.int .i64 ((↑i:Int))))] ⟨[(.cells [(.vec 2 (w) .none),(.val (.int .i64 (AtV.o x))),(.vec 1 (iV (AtV.p x)) .none),(.val (.int .u32 (AtV.h x))),(.val (.int .i64 (AtV.m x))),(.val (.bool (AtV.hm x))),(.vec 2 (n) .none)])], [((List.length l),(8,true))]⟩ [] 46):=by kernel_rfl
theorem NG (L M:Bs) (t1 t2:Tok) (b:Bool) (Q:TV→VT→Prop):aq Tryz.prog ae (aw [(lx,Lu b)]) (aA [(999998, .dead,none)]) 300 aD 0 Ln [.vec 8 L t1, .vec 8 M t2] ⟨[], []⟩ Q=
 (((@Eq (Nat) nN nN)∧
 FJ (L) (M) (b))∧
 Q (.val (.bool (b))) ⟨[], []⟩):=by kernel_rfl
theorem NH (L M:Bs) (t1 t2:Tok) (b:Bool) (Q:TV→VT→Prop):aq Tryz.prog ae aR (aA [(999998, .dead,none)]) 300 (OY L M t1 t2 b (am Tryz.prog lx 0)) 0 lx [.vec 8 L t1, .vec 8 M t2, .fn (.func nN) [] []] ⟨[], []⟩ Q=
 (bif aG BinOp.neq (ar (Value.int IntKind.i64 (↑(List.length L):Int)) (Value.int IntKind.i64 (↑(List.length M):Int)))
 then Q (.val (.bool false)) ⟨[], []⟩
 else ((am Tryz.prog lx (0:Nat)=am Tryz.prog lx (0:Nat))∧
 (((@Eq (Option Nat) .none .none)∧
 ((@Eq (Nat) 0 0)∧
 ((@Eq (List Nat) [] [])∧
 (True  ∧
 ((@Eq (VT) ⟨[], []⟩ ⟨[], []⟩)∧
 ((@Eq (Bool) true true)∧
 (@Eq (List TV) [(.val (.bool false)),(.vec 8 (M) (t2)),(.fn (.func 32) [] []),(.vec 8 (L) (t1)),(.val (.int .i64 ((↑(List.length L):Int)))),(.val (.int .i64 0))] [(.val (.bool false)),(.vec 8 (M) (t2)),(.fn (.func 32) [] []),(.vec 8 (L) (t1)),(.val (.int .i64 ((↑(List.length L):Int)))),(.val (.int .i64 0))])))))))∧
 (bif b
 then Q (.val (.bool true)) ⟨[], []⟩
 else (∀jj:Int,(∀oo:List VO,Q (.val (.bool false)) ⟨(oo), []⟩)))))):=by kernel_rfl
theorem LD (L M:Bs) (t1 t2:Tok) (Q:TV→VT→Prop):aq Tryz.prog ae aR (aA [(999998, .dead,none)]) 300 (Ly (am Tryz.prog lx 0)) 0 lx [.vec 8 L t1, .vec 8 M t2, .fn (.func nN) [] []] ⟨[], []⟩ Q=
 (bif aG BinOp.neq (ar (Value.int IntKind.i64 (↑(List.length L):Int)) (Value.int IntKind.i64 (↑(List.length M):Int)))
 then Q (.val (.bool false)) ⟨[], []⟩
 else ((am Tryz.prog lx (0:Nat)=am Tryz.prog lx (0:Nat))∧
 False)):=by kernel_rfl
theorem DT (L M:Bs) (t1 t2:Tok) (a n a2 n2:Int) (x y:AtV) (g h ok:Bool) (j:Nat) (Q:Exit→List TV→VT→List Nat→Nat→Prop):vx Tryz.prog ae (aw [(nN,GC ok)]) (aA [(999998, .dead,none),(20, .elt (az a n x g),none),(24, .elt (az a2 n2 y h),none)]) 300 aD none 0 (bd Tryz.prog lx 0) (aj 32 sP (nP L M t1 t2 j)) ⟨[], []⟩ [] (bA sP Q)=
 (bif decide ((↑j:Int)<(↑(List.length L):Int))
 then (ax Tryz.prog (fun _=> .none) (.indexAddr 22 (.tmp 15) (.tmp 17)) [(15,(.vec 8 (L) (t1))),(17,(.val (.int .i64 ((↑j:Int)))))] (.elt [(.val (.int .u32 (a))),(.val (.int .i64 (n))),(.val (.int .i64 (AtV.o x))),(.vec 1 (iV (AtV.p x)) .none),(.val (.int .u32 (AtV.h x))),(.val (.int .i64 (AtV.m x))),(.val (.bool (AtV.hm x))),(.val (.bool (g)))])∧
 (ax Tryz.prog (fun _=> .none) (.indexAddr 22 (.tmp 22) (.tmp 23)) [(22,(.vec 8 (M) (t2))),(23,(.val (.int .i64 ((↑j:Int)))))] (.elt [(.val (.int .u32 (a2))),(.val (.int .i64 (n2))),(.val (.int .i64 (AtV.o y))),(.vec 1 (iV (AtV.p y)) .none),(.val (.int .u32 (AtV.h y))),(.val (.int .i64 (AtV.m y))),(.val (.bool (AtV.hm y))),(.val (.bool (h)))])∧
 (Lm [(.val (.int .u32 (a))),(.val (.int .i64 (n))),(.val (.int .i64 (AtV.o x))),(.vec 1 (iV (AtV.p x)) .none),(.val (.int .u32 (AtV.h x))),(.val (.int .i64 (AtV.m x))),(.val (.bool (AtV.hm x))),(.val (.bool (g)))] [(.val (.int .u32 (a2))),(.val (.int .i64 (n2))),(.val (.int .i64 (AtV.o y))),(.vec 1 (iV (AtV.p y)) .none),(.val (.int .u32 (AtV.h y))),(.val (.int .i64 (AtV.m y))),(.val (.bool (AtV.hm y))),(.val (.bool (h)))] (ok)∧
 (bif !ok
 then Q .ret [(.val (.bool false)),(.vec 8 (M) (t2)),(.fn (.func 32) [] []),(.vec 8 (L) (t1)),(.val (.int .i64 ((↑(List.length L):Int)))),(.val (.int .i64 ((↑j:Int))))] ⟨[(.cells [(.val (.int .u32 (a))),(.val (.int .i64 (n))),(.val (.int .i64 (AtV.o x))),(.vec 1 (iV (AtV.p x)) .none),(.val (.int .u32 (AtV.h x))),(.val (.int .i64 (AtV.m x))),(.val (.bool (AtV.hm x))),(.val (.bool (g)))]),(.cells [(.val (.int .u32 (a2))),(.val (.int .i64 (n2))),(.val (.int .i64 (AtV.o y))),(.vec 1 (iV (AtV.p y)) .none),(.val (.int .u32 (AtV.h y))),(.val (.int .i64 (AtV.m y))),(.val (.bool (AtV.hm y))),(.val (.bool (h)))])], []⟩ [] 32
 else Q .normal [(.val (.bool false)),(.vec 8 (M) (t2)),(.fn (.func 32) [] []),(.vec 8 (L) (t1)),(.val (.int .i64 ((↑(List.length L):Int)))),(.val (.int .i64 (IntKind.wrap IntKind.i64 ((↑j:Int)+(1:Int)))))] ⟨[(.cells [(.val (.int .u32 (a))),(.val (.int .i64 (n))),(.val (.int .i64 (AtV.o x))),(.vec 1 (iV (AtV.p x)) .none),(.val (.int .u32 (AtV.h x))),(.val (.int .i64 (AtV.m x))),(.val (.bool (AtV.hm x))),(.val (.bool (g)))]),(.cells [(.val (.int .u32 (a2))),(.val (.int .i64 (n2))),(.val (.int .i64 (AtV.o y))),(.vec 1 (iV (AtV.p y)) .none),(.val (.int .u32 (AtV.h y))),(.val (.int .i64 (AtV.m y))),(.val (.bool (AtV.hm y))),(.val (.bool (h)))])], []⟩ [] 32))))
 else Q (.exit 0) [(.val (.bool false)),(.vec 8 (M) (t2)),(.fn (.func 32) [] []),(.vec 8 (L) (t1)),(.val (.int .i64 ((↑(List.length L):Int)))),(.val (.int .i64 ((↑j:Int))))] ⟨[], []⟩ [] 32):=by kernel_rfl
theorem NI (a n a2 n2:Int) (x y:AtV) (g h ok:Bool) (Q:TV→VT→Prop):aq Tryz.prog ae (aw [(oL,Dj ok)]) (aA [(999998, .dead,none)]) 300 aD 0 nN [.agg (az a n x g), .agg (az a2 n2 y h)] ⟨[], []⟩ Q=
 (bif aG BinOp.eql (ar ((fun vs=>Value.agg (List.toArray vs)) ((fun x=>Value.int IntKind.u32 a::x) ((fun x=>Value.int IntKind.i64 n::x) []))) ((fun vs=>Value.agg (List.toArray vs)) ((fun x=>Value.int IntKind.u32 a2::x) ((fun x=>Value.int IntKind.i64 n2::x) []))))
 then (bif aG BinOp.eql (ar (Value.bool g) (Value.bool h))
 then (Ft [(.val (.int .i64 (AtV.o x))),(.vec 1 (iV (AtV.p x)) .none),(.val (.int .u32 (AtV.h x))),(.val (.int .i64 (AtV.m x))),(.val (.bool (AtV.hm x)))] [(.val (.int .i64 (AtV.o y))),(.vec 1 (iV (AtV.p y)) .none),(.val (.int .u32 (AtV.h y))),(.val (.int .i64 (AtV.m y))),(.val (.bool (AtV.hm y)))] (ok)∧
 Q (.val (.bool (ok))) ⟨[(.cells [(.val (.int .u32 (a))),(.val (.int .i64 (n))),(.val (.int .i64 (AtV.o x))),(.vec 1 (iV (AtV.p x)) .none),(.val (.int .u32 (AtV.h x))),(.val (.int .i64 (AtV.m x))),(.val (.bool (AtV.hm x))),(.val (.bool (g)))]),(.cells [(.val (.int .u32 (a2))),(.val (.int .i64 (n2))),(.val (.int .i64 (AtV.o y))),(.vec 1 (iV (AtV.p y)) .none),(.val (.int .u32 (AtV.h y))),(.val (.int .i64 (AtV.m y))),(.val (.bool (AtV.hm y))),(.val (.bool (h)))])], []⟩)
 else Q (.val (.bool false)) ⟨[(.cells [(.val (.int .u32 (a))),(.val (.int .i64 (n))),(.val (.int .i64 (AtV.o x))),(.vec 1 (iV (AtV.p x)) .none),(.val (.int .u32 (AtV.h x))),(.val (.int .i64 (AtV.m x))),(.val (.bool (AtV.hm x))),(.val (.bool (g)))]),(.cells [(.val (.int .u32 (a2))),(.val (.int .i64 (n2))),(.val (.int .i64 (AtV.o y))),(.vec 1 (iV (AtV.p y)) .none),(.val (.int .u32 (AtV.h y))),(.val (.int .i64 (AtV.m y))),(.val (.bool (AtV.hm y))),(.val (.bool (h)))])], []⟩)
 else Q (.val (.bool false)) ⟨[(.cells [(.val (.int .u32 (a))),(.val (.int .i64 (n))),(.val (.int .i64 (AtV.o x))),(.vec 1 (iV (AtV.p x)) .none),(.val (.int .u32 (AtV.h x))),(.val (.int .i64 (AtV.m x))),(.val (.bool (AtV.hm x))),(.val (.bool (g)))]),(.cells [(.val (.int .u32 (a2))),(.val (.int .i64 (n2))),(.val (.int .i64 (AtV.o y))),(.vec 1 (iV (AtV.p y)) .none),(.val (.int .u32 (AtV.h y))),(.val (.int .i64 (AtV.m y))),(.val (.bool (AtV.hm y))),(.val (.bool (h)))])], []⟩):=by kernel_rfl
theorem NJ (w n b:Bs) (x:AtV) (ok:Bool) (Q:TV→VT→Prop):aq Tryz.prog ae (aw [(N7,Lv ok),(N8,Lw b)]) (aA [(999998, .dead,none)]) 300 aD 0 Gy [.agg (aV w x n)] ⟨[], []⟩ Q=
 (Lj [(.vec 2 (w) .none),(.val (.int .i64 (AtV.o x))),(.vec 1 (iV (AtV.p x)) .none),(.val (.int .u32 (AtV.h x))),(.val (.int .i64 (AtV.m x))),(.val (.bool (AtV.hm x))),(.vec 2 (n) .none)] (ok)∧
 (bif !ok
 then Q (.val (.int .i64 0)) ⟨[(.cells [(.vec 2 (w) .none),(.val (.int .i64 (AtV.o x))),(.vec 1 (iV (AtV.p x)) .none),(.val (.int .u32 (AtV.h x))),(.val (.int .i64 (AtV.m x))),(.val (.bool (AtV.hm x))),(.vec 2 (n) .none)])], []⟩
 else (Lk [(.vec 2 (w) .none),(.val (.int .i64 (AtV.o x))),(.vec 1 (iV (AtV.p x)) .none),(.val (.int .u32 (AtV.h x))),(.val (.int .i64 (AtV.m x))),(.val (.bool (AtV.hm x))),(.vec 2 (n) .none)] (b)∧
 Q (.val (.int .i64 ((↑(List.length b):Int)))) ⟨[(.cells [(.vec 2 (w) .none),(.val (.int .i64 (AtV.o x))),(.vec 1 (iV (AtV.p x)) .none),(.val (.int .u32 (AtV.h x))),(.val (.int .i64 (AtV.m x))),(.val (.bool (AtV.hm x))),(.vec 2 (n) .none)])], []⟩))):=by kernel_rfl
theorem NK (L:Bs) (tk:Tok) (n:Int) (b:Bool) (Q:TV→VT→Prop):aq Tryz.prog ae aR (aA [(999998, .dead,none)]) 300 (OZ L tk n b (am Tryz.prog nM 0)) 0 nM [.vec 8 L tk, .val (.int .i64 60)] ⟨[], []⟩ Q=
 (bif decide ((↑(List.length L):Int)>(60:Int))
 then Q (.val (.bool false)) ⟨[], []⟩
 else ((am Tryz.prog nM (0:Nat)=am Tryz.prog nM (0:Nat))∧
 (((@Eq (Option Nat) .none .none)∧
 ((@Eq (Nat) 0 0)∧
 ((@Eq (List Nat) [] [])∧
 (True  ∧
 ((@Eq (VT) ⟨[], []⟩ ⟨[], []⟩)∧
 ((@Eq (Bool) true true)∧
 (@Eq (List TV) [(.val (.bool false)),(.val (.int .i64 0)),(.vec 8 (L) (tk)),(.val (.int .i64 ((↑(List.length L):Int)))),(.val (.int .i64 0))] [(.val (.bool false)),(.val (.int .i64 0)),(.vec 8 (L) (tk)),(.val (.int .i64 ((↑(List.length L):Int)))),(.val (.int .i64 0))])))))))∧
 (bif b
 then Q (.val (.bool true)) ⟨[], []⟩
 else (∀cc:Int,(∀jj:Int,(∀oo:List VO,Q (.val (.bool false)) ⟨(oo), []⟩))))))):=by kernel_rfl
theorem LE (L:Bs) (tk:Tok) (Q:TV→VT→Prop):aq Tryz.prog ae aR (aA [(999998, .dead,none)]) 300 (Ly (am Tryz.prog nM 0)) 0 nM [.vec 8 L tk, .val (.int .i64 60)] ⟨[], []⟩ Q=
 (bif decide ((↑(List.length L):Int)>(60:Int))
 then Q (.val (.bool false)) ⟨[], []⟩
 else ((am Tryz.prog nM (0:Nat)=am Tryz.prog nM (0:Nat))∧
 False)):=by kernel_rfl
theorem DU (L:Bs) (tk:Tok) (a n c:Int) (x:AtV) (g:Bool) (j:Nat) (Q:Exit→List TV→VT→List Nat→Nat→Prop):vx Tryz.prog ae aR (aA [(999998, .dead,none),(16, .elt (az a n x g),none)]) 300 aD none 0 (bd Tryz.prog nM 0) (aj 27 sQ (mu L tk c j)) ⟨[], []⟩ [] (bA sQ Q)=
 (bif decide ((↑j:Int)<(↑(List.length L):Int))
 then (ax Tryz.prog (fun _=> .none) (.indexAddr 22 (.tmp 12) (.tmp 14)) [(12,(.vec 8 (L) (tk))),(14,(.val (.int .i64 ((↑j:Int)))))] (.elt [(.val (.int .u32 (a))),(.val (.int .i64 (n))),(.val (.int .i64 (AtV.o x))),(.vec 1 (iV (AtV.p x)) .none),(.val (.int .u32 (AtV.h x))),(.val (.int .i64 (AtV.m x))),(.val (.bool (AtV.hm x))),(.val (.bool (g)))])∧
 (bif decide (IntKind.wrap IntKind.i64 (c+(↑(List.length (iV (AtV.p x))):Int))>(3000:Int))
 then Q .ret [(.val (.bool false)),(.val (.int .i64 (IntKind.wrap IntKind.i64 (c+(↑(List.length (iV (AtV.p x))):Int))))),(.vec 8 (L) (tk)),(.val (.int .i64 ((↑(List.length L):Int)))),(.val (.int .i64 ((↑j:Int))))] ⟨[(.cells [(.val (.int .u32 (a))),(.val (.int .i64 (n))),(.val (.int .i64 (AtV.o x))),(.vec 1 (iV (AtV.p x)) .none),(.val (.int .u32 (AtV.h x))),(.val (.int .i64 (AtV.m x))),(.val (.bool (AtV.hm x))),(.val (.bool (g)))])], []⟩ [] 27
 else Q .normal [(.val (.bool false)),(.val (.int .i64 (IntKind.wrap IntKind.i64 (c+(↑(List.length (iV (AtV.p x))):Int))))),(.vec 8 (L) (tk)),(.val (.int .i64 ((↑(List.length L):Int)))),(.val (.int .i64 (IntKind.wrap IntKind.i64 ((↑j:Int)+(1:Int)))))] ⟨[(.cells [(.val (.int .u32 (a))),(.val (.int .i64 (n))),(.val (.int .i64 (AtV.o x))),(.vec 1 (iV (AtV.p x)) .none),(.val (.int .u32 (AtV.h x))),(.val (.int .i64 (AtV.m x))),(.val (.bool (AtV.hm x))),(.val (.bool (g)))])], []⟩ [] 27))
 else Q (.exit 0) [(.val (.bool false)),(.val (.int .i64 (c))),(.vec 8 (L) (tk)),(.val (.int .i64 ((↑(List.length L):Int)))),(.val (.int .i64 ((↑j:Int))))] ⟨[], []⟩ [] 27):=by kernel_rfl
theorem NL (u:Bs) (x:AtV) (p q:List TV) (Q:TV→VT→Prop):aq Tryz.prog ae (aw [(qk,Lt [aV [] x [p,q]])]) (aA [(999998, .dead,none)]) 300 aD 0 N9 [] ⟨[], []⟩ Q=
 (Lg [[(.val (.int .u32 16777216)),(.val (.int .i64 8)),(.val (.int .i64 0)),(.val (.slice .none 0 0)),(.val (.int .u32 9)),(.val (.int .i64 0)),(.val (.bool false)),(.val (.bool false))], [(.val (.int .u32 33554432)),(.val (.int .i64 8)),(.val (.int .i64 0)),(.val (.slice .none 0 0)),(.val (.int .u32 9)),(.val (.int .i64 0)),(.val (.bool false)),(.val (.bool false))]] [[(.vec 2 [] .none),(.val (.int .i64 (AtV.o x))),(.vec 1 (iV (AtV.p x)) .none),(.val (.int .u32 (AtV.h x))),(.val (.int .i64 (AtV.m x))),(.val (.bool (AtV.hm x))),(.vec 2 [(p),(q)] .none)]]∧
 Q (.val (.bool true)) ⟨[(.cells [(.val (.int .i64 0)),(.val (.slice .none 0 0)),(.val (.int .u32 9)),(.val (.int .i64 0)),(.val (.bool false))])], []⟩):=by kernel_rfl
end
--PkH
section
open Go.RowKit
set_option maxRecDepth 100000

theorem bL (cs:List Ch):(cs.map ag).length=cs.length:=List.length_map _
theorem ng {cs:List Ch} {j:Nat} {c:Ch} {tok:Tok} (x i:Nat) (hne:Nat.beq x i=false) (hp:cs[j]?=some c):ax Tryz.prog ae (.indexAddr 22 (.tmp x) (.tmp i)) [(x, .vec 8 (cs.map ag) tok),(i, .val (.int .i64 (j:Int)))] (.elt (ag c)):=
 oT.ix hne (by simp [hp])
theorem xC {c:Ch} {cs:List Ch} {tok:Tok} (x:Nat):ax Tryz.prog ae (.indexAddr 22 (.tmp x) (.const (.int .i64 0))) [(x, .vec 8 ((c::cs).map ag) tok)] (.elt (ag c)):=oT.ix0 rfl
theorem sR {objs:List VO} {tl:eo} {k:Nat} {A:Bs} {c:Ch} (s x:Nat) (hk:tl[k]?=some (A.length,8,true)) (hne:Nat.beq s x=false) (hl:A.length≤10000000):aB Tryz.prog ae 0 ⟨objs,tl⟩ (.call ⟨.builtin .append, #[.tmp s, .tmp x], #[22,22]⟩) [(s, .vec 8 A (.tail k A.length)),(x, .vec 8 [ag c] .full)] (.vec 8 (A++ [ag c]) (.tail k (A.length+1))) ⟨objs,tl.set k (A.length+1,8,true)⟩:=
 oT.app (T:=⟨objs,tl⟩) hk hne (by simp only [List.length_cons,List.length_nil];omega)
theorem bZ {α:Type} {cs:List α} {j:Nat} {c:α} (h:cs[j]?=some c):cs.take (j+1)=cs.take j++ [c]:=by rw [List.take_add_one,h];rfl
theorem sS {cs:List Ch} {j:Nat} {c:Ch} (h:cs[j]?=some c) {f:Ch→Bool} (hf:f c=true):((cs.take (j+1)).filter f).map ag=((cs.take j).filter f).map ag++ [ag c]:=by
 rw [bZ h,List.filter_append,List.map_append];simp [hf]
theorem sU {cs:List Ch} {j:Nat} {c:Ch} (h:cs[j]?=some c) {f:Ch→Bool} (hf:f c=false):((cs.take (j+1)).filter f).map ag=((cs.take j).filter f).map ag:=by
 rw [bZ h,List.filter_append,List.map_append];simp [hf]
theorem nh (cs:List Ch) (f:Ch→Bool):((cs.filter f).map ag).length≤cs.length:=by
 rw [List.length_map];exact List.length_filter_le _ _
theorem In (c:Ch):VCx Tryz.prog ae 0 sJ [.agg (ag c)] ⟨[], []⟩ fun x T' =>x= .val (.bool c.2.2)∧T' =⟨[], []⟩:=
 VCx.keepQ 0 0 (Nat.le_refl _) (Nat.le_refl _) (ak ac aa ai ah (Lz c.1.1 c.1.2 c.2.1 c.2.2 _) ⟨rfl,rfl⟩)
theorem Io (b:Bool):∀ro ys T K,Bp b ro ys T K→VCx Tryz.prog ae ro sJ ys T K:=by
 intro ro ys T K h
 unfold Bp at h
 split at h
 ·obtain ⟨⟨c,rfl,rfl⟩,hk⟩:=h
  exact VCx.liftPure ap (In c) (by simp only [av,TV.ren,gU]) (fun _ _=>rfl) hk
 ·exact h.elim
theorem LF (ok:Bool):aQ Tryz.prog ae (aw [(oL,Dj ok)]):=aE fun p hp=>by obtain rfl:=List.mem_singleton.1 hp;exact KP ok
theorem mw (a:AtV) (f g:Nat→Option Nat):av f g a.cells=a.cells:=by simp only [AtV.cells,av,TV.ren,dw,Tok.ren]
theorem Ip (c:Ch) (y:AtV) (h1:c.2.1.p.length≤9223372036854775807) (h2:y.p.length≤9223372036854775807):VCx Tryz.prog ae 0 sK [.agg (ag c), .ptr 0 0] ⟨[.cells y.cells], []⟩ fun x T' =>x= .val (.bool (decide (c.2.1=y)))∧T' =⟨[.cells y.cells], []⟩:=by
 refine VCx.keepQ 1 0 (Nat.le_refl _) (Nat.le_refl _) (ak ac aa (LF _) ah (LA c.1.1 c.1.2 c.2.1 y c.2.2 (decide (c.2.1=y)) _) ⟨?_,rfl, ?_⟩)
 ·exact ⟨c.2.1,y,⟨rfl,rfl⟩,⟨h1,h2⟩,rfl⟩
 ·show VT.keep ⟨.cells y.cells::_, []⟩ 1 0=_
  simp only [VT.keep,List.take_succ_cons,List.take_zero,List.map_cons,List.map_nil,VO.ren,mw]
theorem Iq (y:AtV) (b:Bool):∀ro ys T K,Bq y.cells b ro ys T K→VCx Tryz.prog ae ro sK ys T K:=by
 intro ro ys T K h
 unfold Bq at h
 split at h
 ·obtain ⟨⟨hro,ho,a,c,ha,rfl,h1,h2,rfl⟩,hk⟩:=h
  rename_i l i
  rw [ha] at ho
  refine VCx.atKeep (R:=fun x=>x= .val (.bool (decide (c.2.1=a)))) (ys1:= [.agg (ag c), .ptr 0 0]) ap (Nat.le_of_ble_eq_true hro) ho rfl (fun f g=>by simp only [VO.ren,mw]) ?_ (Ip c a h2 h1) (fun x hx=>by subst hx;exact ⟨fun _ _=>rfl,hk⟩)
  refine ⟨.of_eq (by simp only [TV.ren,gU]), .of_eq ?_,trivial⟩
  simp [TV.ren,bc]
 ·exact h.elim
theorem GD (b:Bool):aQ Tryz.prog ae (aw [(sJ,Bp b)]):=aE fun p hp=>by obtain rfl:=List.mem_singleton.1 hp;exact Io b
theorem GE (y:AtV) (b:Bool):aQ Tryz.prog ae (aw [(sK,Bq y.cells b)]):=aE fun p hp=>by obtain rfl:=List.mem_singleton.1 hp;exact Iq y b

section

theorem FL {cs:List Ch} (hl:cs.length≤1000000) (K:KX) (hK:K .normal (aj 30 lC (er lA (cs.map ag) .none ((cs.filter (fun c=>c.2.2)).map ag) ((cs.filter (fun c=> !c.2.2)).map ag) ((cs.map ag).length:Nat))) (gV [] ((cs.filter (fun c=>c.2.2)).map ag).length ((cs.filter (fun c=> !c.2.2)).map ag).length) []):
    VWx Tryz.prog ae none 0 (am Tryz.prog gu 0) (aj 30 lC (er lA (cs.map ag) .none [] [] 0)) (gV [] 0 0) [] K:=by
  have hlen:=bL cs
  refine bK (f:=gu) (id:=0) (by kernel_rfl) 30 lC (fun j:Nat=>cs.length-j) (fun j:Nat=>er lA (cs.map ag) .none (((cs.take j).filter (fun c=>c.2.2)).map ag) (((cs.take j).filter (fun c=> !c.2.2)).map ag) (j:Int)) (fun j=>gV [] (((cs.take j).filter (fun c=>c.2.2)).map ag).length (((cs.take j).filter (fun c=> !c.2.2)).map ag).length) (fun j=>j≤cs.length) 0 2 (fun j _=>⟨Nat.le_refl _,Nat.le_refl _⟩)
    (fun e vs T=>e= .normal∧vs=er lA (cs.map ag) .none ((cs.filter (fun c=>c.2.2)).map ag) ((cs.filter (fun c=> !c.2.2)).map ag) ((cs.map ag).length:Nat)∧T=gV [] ((cs.filter (fun c=>c.2.2)).map ag).length ((cs.filter (fun c=> !c.2.2)).map ag).length) (fun j hj=> ?_) 0 (Nat.zero_le _) K ?_
  rotate_left
  · rintro e vs T ⟨rfl,rfl,rfl⟩
    exact hK
  have hA:=nh (cs.take j) (fun c=>c.2.2)
  have hB:=nh (cs.take j) (fun c=> !c.2.2)
  rw [List.length_take] at hA hB
  show VWx _ _ _ _ _ (aj 30 lC (er lA (cs.map ag) .none (((cs.take j).filter (fun c=>c.2.2)).map ag) (((cs.take j).filter (fun c=> !c.2.2)).map ag) (j:Int))) (gV [] (((cs.take j).filter (fun c=>c.2.2)).map ag).length (((cs.take j).filter (fun c=> !c.2.2)).map ag).length) _ _
  generalize eA:((cs.take j).filter (fun c=>c.2.2)).map ag=A at hA
  generalize eB:((cs.take j).filter (fun c=> !c.2.2)).map ag=B at hB
  by_cases hlt:j<cs.length
  · have hr:=List.getElem?_eq_getElem hlt
    have hm:cs[j]∈cs:=List.getElem_mem hlt
    generalize cs[j]=c at hr hm
    refine aI ac aa (GD _) ah (DJ (cs.map ag) A B (A++ [ag c]) (B++ [ag c]) .none c.1.1 c.1.2 c.2.1 c.2.2 (c.2.2) j (A.length+1) (B.length+1) [(A.length+1,8,true),(B.length,8,true)] [(A.length,8,true),(B.length+1,8,true)] _) ?_
    refine aN (decide_eq_true (by rw [hlen];omega)) ⟨ng 10 12 rfl hr,⟨c,rfl,rfl⟩, ?_⟩
    rw [cf (by omega)]
    have hend:∀(A' B' :Bs) (o:List VO),((cs.take (j+1)).filter (fun c=>c.2.2)).map ag=A' →((cs.take (j+1)).filter (fun c=> !c.2.2)).map ag=B' →m4 30 0 (fun j:Nat=>cs.length-j) (fun j:Nat=>er lA (cs.map ag) .none (((cs.take j).filter (fun c=>c.2.2)).map ag) (((cs.take j).filter (fun c=> !c.2.2)).map ag) (j:Int)) (fun j=>gV [] (((cs.take j).filter (fun c=>c.2.2)).map ag).length (((cs.take j).filter (fun c=> !c.2.2)).map ag).length) (fun j=>j≤cs.length) 0 2 j
        (fun e vs T=>e= .normal∧vs=er lA (cs.map ag) .none ((cs.filter (fun c=>c.2.2)).map ag) ((cs.filter (fun c=> !c.2.2)).map ag) ((cs.map ag).length:Nat)∧T=gV [] ((cs.filter (fun c=>c.2.2)).map ag).length ((cs.filter (fun c=> !c.2.2)).map ag).length)
        .normal (er lA (cs.map ag) .none A' B' ((j+1:Nat):Int)) ⟨[]++o, [(A'.length,8,true),(B'.length,8,true)]⟩ [] 30:=fun A' B' o h1 h2=>by
      subst h1 h2
      refine ⟨rfl,rfl,j+1,hlt,by show cs.length-(j+1)<cs.length-j;omega, .inr ⟨?_, ?_⟩⟩
      · simp only [VT.keep,gV,List.cons_append,List.nil_append,List.take_succ_cons,List.take_zero,List.map_cons,List.map_nil,VO.ren,mw]
      · simp only [er,av,TV.ren,aP,Tok.ren];rfl
    refine aF (fun hf=> ?_) (fun hf=> ?_)
    · have e1:=sS hr (f:=(fun c=>c.2.2)) hf
      have e2:=sU hr (f:=(fun c=> !c.2.2)) (by rw [hf];rfl)
      rw [eA] at e1;rw [eB] at e2
      refine ⟨sR 19 21 rfl rfl (by omega), ?_⟩
      have:=hend (A++ [ag c]) B [.cells (ag c)] e1 e2
      rw [show (A++ [ag c]).length=A.length+1 by simp] at this
      unfold er at this
      rw [show (A++ [ag c]).length=A.length+1 by simp] at this
      exact this
    · have e1:=sU hr (f:=(fun c=>c.2.2)) hf
      have e2:=sS hr (f:=(fun c=> !c.2.2)) (by rw [hf];rfl)
      rw [eA] at e1;rw [eB] at e2
      refine ⟨sR 23 25 rfl rfl (by omega), ?_⟩
      have:=hend A (B++ [ag c]) [.cells (ag c)] e1 e2
      rw [show (B++ [ag c]).length=B.length+1 by simp] at this
      unfold er at this
      rw [show (B++ [ag c]).length=B.length+1 by simp] at this
      exact this
  · obtain rfl:j=cs.length:=by omega
    rw [List.take_length] at eA eB
    rw [eA,eB]
    refine aI ac aa (GD true) ah (DJ (cs.map ag) A B [] [] .none 0 0 bm true true cs.length 0 0 [] [] _) (aH (decide_eq_false (by rw [hlen];omega)) ?_)
    exact ⟨rfl,rfl,rfl,by simp only [er,hlen];rfl,rfl⟩
theorem Ir {cs:List Ch} (hl:cs.length≤1000000):VCx Tryz.prog ae 0 gu [.vec 8 (cs.map ag) .none,lA] ⟨[], []⟩ fun x T' =>x= .tup [.vec 8 ((cs.filter (fun c=>c.2.2)).map ag) .none, .vec 8 ((cs.filter (fun c=> !c.2.2)).map ag) .none]∧T' =⟨[], []⟩:=by
 refine VCx.toLe (Q:=fun T' =>T' =⟨[], []⟩) (VCx.keepQ 0 0 (Nat.le_refl _) (Nat.le_refl _) (ak ac aa ai (aL fun p hp=> ?_) (LB (cs.map ag) ((cs.filter (fun c=>c.2.2)).map ag) ((cs.filter (fun c=> !c.2.2)).map ag) .none _) ⟨rfl,⟨rfl,rfl,rfl,⟨rfl,rfl,trivial⟩,rfl,rfl,rfl⟩, ?_, ?_⟩))
 ·obtain rfl:=List.mem_singleton.1 hp
  exact aS (FL hl)
 ·simp only [TV.ren,av,aP]
  exact .tup ⟨.vec 8 _ _, .vec 8 _ _,trivial⟩
 ·rfl
end

section
variable {y:AtV}
theorem FN {cs:List Ch} (hl:cs.length≤1000000) (hy:y.p.length≤9223372036854775807) (hpl:∀c∈cs,c.2.1.p.length≤9223372036854775807) (K:KX) (hK:K .normal (aj 30 lC (er lB (cs.map ag) .none ((cs.filter (fun c=>decide (c.2.1=y))).map ag) ((cs.filter (fun c=> !decide (c.2.1=y))).map ag) ((cs.map ag).length:Nat))) (gV [.cells y.cells] ((cs.filter (fun c=>decide (c.2.1=y))).map ag).length ((cs.filter (fun c=> !decide (c.2.1=y))).map ag).length) []):
    VWx Tryz.prog ae none 0 (am Tryz.prog gu 0) (aj 30 lC (er lB (cs.map ag) .none [] [] 0)) (gV [.cells y.cells] 0 0) [] K:=by
  have hlen:=bL cs
  refine bK (f:=gu) (id:=0) (by kernel_rfl) 30 lC (fun j:Nat=>cs.length-j) (fun j:Nat=>er lB (cs.map ag) .none (((cs.take j).filter (fun c=>decide (c.2.1=y))).map ag) (((cs.take j).filter (fun c=> !decide (c.2.1=y))).map ag) (j:Int)) (fun j=>gV [.cells y.cells] (((cs.take j).filter (fun c=>decide (c.2.1=y))).map ag).length (((cs.take j).filter (fun c=> !decide (c.2.1=y))).map ag).length) (fun j=>j≤cs.length) 1 2 (fun j _=>⟨Nat.le_refl _,Nat.le_refl _⟩)
    (fun e vs T=>e= .normal∧vs=er lB (cs.map ag) .none ((cs.filter (fun c=>decide (c.2.1=y))).map ag) ((cs.filter (fun c=> !decide (c.2.1=y))).map ag) ((cs.map ag).length:Nat)∧T=gV [.cells y.cells] ((cs.filter (fun c=>decide (c.2.1=y))).map ag).length ((cs.filter (fun c=> !decide (c.2.1=y))).map ag).length) (fun j hj=> ?_) 0 (Nat.zero_le _) K ?_
  rotate_left
  · rintro e vs T ⟨rfl,rfl,rfl⟩
    exact hK
  have hA:=nh (cs.take j) (fun c=>decide (c.2.1=y))
  have hB:=nh (cs.take j) (fun c=> !decide (c.2.1=y))
  rw [List.length_take] at hA hB
  show VWx _ _ _ _ _ (aj 30 lC (er lB (cs.map ag) .none (((cs.take j).filter (fun c=>decide (c.2.1=y))).map ag) (((cs.take j).filter (fun c=> !decide (c.2.1=y))).map ag) (j:Int))) (gV [.cells y.cells] (((cs.take j).filter (fun c=>decide (c.2.1=y))).map ag).length (((cs.take j).filter (fun c=> !decide (c.2.1=y))).map ag).length) _ _
  generalize eA:((cs.take j).filter (fun c=>decide (c.2.1=y))).map ag=A at hA
  generalize eB:((cs.take j).filter (fun c=> !decide (c.2.1=y))).map ag=B at hB
  by_cases hlt:j<cs.length
  · have hr:=List.getElem?_eq_getElem hlt
    have hm:cs[j]∈cs:=List.getElem_mem hlt
    generalize cs[j]=c at hr hm
    refine aI ac aa (GE y _) ah (DK y (cs.map ag) A B (A++ [ag c]) (B++ [ag c]) .none c.1.1 c.1.2 c.2.1 c.2.2 (decide (c.2.1=y)) j (A.length+1) (B.length+1) [(A.length+1,8,true),(B.length,8,true)] [(A.length,8,true),(B.length+1,8,true)] _) ?_
    refine aN (decide_eq_true (by rw [hlen];omega)) ⟨ng 10 12 rfl hr,⟨rfl,rfl,y,c,rfl,rfl,hy,hpl c hm,rfl⟩, ?_⟩
    rw [cf (by omega)]
    have hend:∀(A' B' :Bs) (o:List VO),((cs.take (j+1)).filter (fun c=>decide (c.2.1=y))).map ag=A' →((cs.take (j+1)).filter (fun c=> !decide (c.2.1=y))).map ag=B' →m4 30 0 (fun j:Nat=>cs.length-j) (fun j:Nat=>er lB (cs.map ag) .none (((cs.take j).filter (fun c=>decide (c.2.1=y))).map ag) (((cs.take j).filter (fun c=> !decide (c.2.1=y))).map ag) (j:Int)) (fun j=>gV [.cells y.cells] (((cs.take j).filter (fun c=>decide (c.2.1=y))).map ag).length (((cs.take j).filter (fun c=> !decide (c.2.1=y))).map ag).length) (fun j=>j≤cs.length) 1 2 j
        (fun e vs T=>e= .normal∧vs=er lB (cs.map ag) .none ((cs.filter (fun c=>decide (c.2.1=y))).map ag) ((cs.filter (fun c=> !decide (c.2.1=y))).map ag) ((cs.map ag).length:Nat)∧T=gV [.cells y.cells] ((cs.filter (fun c=>decide (c.2.1=y))).map ag).length ((cs.filter (fun c=> !decide (c.2.1=y))).map ag).length)
        .normal (er lB (cs.map ag) .none A' B' ((j+1:Nat):Int)) ⟨[.cells y.cells]++o, [(A'.length,8,true),(B'.length,8,true)]⟩ [] 30:=fun A' B' o h1 h2=>by
      subst h1 h2
      refine ⟨rfl,rfl,j+1,hlt,by show cs.length-(j+1)<cs.length-j;omega, .inr ⟨?_, ?_⟩⟩
      · simp only [VT.keep,gV,List.cons_append,List.nil_append,List.take_succ_cons,List.take_zero,List.map_cons,List.map_nil,VO.ren,mw]
      · simp only [er,av,TV.ren,aP,Tok.ren];rfl
    refine aF (fun hf=> ?_) (fun hf=> ?_)
    · have e1:=sS hr (f:=(fun c=>decide (c.2.1=y))) hf
      have e2:=sU hr (f:=(fun c=> !decide (c.2.1=y))) (by rw [hf];rfl)
      rw [eA] at e1;rw [eB] at e2
      refine ⟨sR 19 21 rfl rfl (by omega), ?_⟩
      have:=hend (A++ [ag c]) B [.cells (ag c)] e1 e2
      rw [show (A++ [ag c]).length=A.length+1 by simp] at this
      unfold er at this
      rw [show (A++ [ag c]).length=A.length+1 by simp] at this
      exact this
    · have e1:=sU hr (f:=(fun c=>decide (c.2.1=y))) hf
      have e2:=sS hr (f:=(fun c=> !decide (c.2.1=y))) (by rw [hf];rfl)
      rw [eA] at e1;rw [eB] at e2
      refine ⟨sR 23 25 rfl rfl (by omega), ?_⟩
      have:=hend A (B++ [ag c]) [.cells (ag c)] e1 e2
      rw [show (B++ [ag c]).length=B.length+1 by simp] at this
      unfold er at this
      rw [show (B++ [ag c]).length=B.length+1 by simp] at this
      exact this
  · obtain rfl:j=cs.length:=by omega
    rw [List.take_length] at eA eB
    rw [eA,eB]
    refine aI ac aa (GE y true) ah (DK y (cs.map ag) A B [] [] .none 0 0 bm true true cs.length 0 0 [] [] _) (aH (decide_eq_false (by rw [hlen];omega)) ?_)
    exact ⟨rfl,rfl,rfl,by simp only [er,hlen];rfl,rfl⟩
theorem Is {cs:List Ch} (hl:cs.length≤1000000) (hy:y.p.length≤9223372036854775807) (hpl:∀c∈cs,c.2.1.p.length≤9223372036854775807):VCx Tryz.prog ae 0 gu [.vec 8 (cs.map ag) .none,lB] ⟨[.cells y.cells], []⟩ fun x T' =>x= .tup [.vec 8 ((cs.filter (fun c=>decide (c.2.1=y))).map ag) .none, .vec 8 ((cs.filter (fun c=> !decide (c.2.1=y))).map ag) .none]∧T' =⟨[.cells y.cells], []⟩:=by
 refine VCx.toLe (Q:=fun T' =>T' =⟨[.cells y.cells], []⟩) (VCx.keepQ 1 0 (Nat.le_refl _) (Nat.le_refl _) (ak ac aa ai (aL fun p hp=> ?_) (LC y (cs.map ag) ((cs.filter (fun c=>decide (c.2.1=y))).map ag) ((cs.filter (fun c=> !decide (c.2.1=y))).map ag) .none _) ⟨rfl,⟨rfl,rfl,rfl,⟨rfl,rfl,trivial⟩,rfl,rfl,rfl⟩, ?_, ?_⟩))
 ·obtain rfl:=List.mem_singleton.1 hp
  exact aS (FN hl hy hpl)
 ·simp only [TV.ren,av,aP]
  exact .tup ⟨.vec 8 _ _, .vec 8 _ _,trivial⟩
 ·show VT.keep ⟨[.cells y.cells],_⟩ 1 0=_
  simp only [VT.keep,List.take_succ_cons,List.take_zero,List.map_cons,List.map_nil,VO.ren,mw]
end

theorem LG (a b:Bs):∀ro ys T K,Lq a b ro ys T K→VCx Tryz.prog ae ro gu ys T K:=by
 intro ro ys T K h
 unfold Lq at h
 split at h
 ·obtain ⟨⟨rfl,cs,rfl,hl,rfl,rfl⟩,hk⟩:=h
  refine VCx.argsLe (xs:= [.vec 8 (cs.map ag) .none,lA]) ⟨.vec 8 _ _, .refl _,trivial⟩ ?_
  exact VCx.liftPure ap (Ir hl) (by simp only [lA,av,TV.ren,aP,Tok.ren]) (fun _ _=>by simp only [TV.ren,av,aP,Tok.ren]) hk
 ·exact h.elim
theorem LH (y:AtV) (a b:Bs):∀ro ys T K,GA y a b ro ys T K→VCx Tryz.prog ae ro gu ys T K:=by
 intro ro ys T K h
 unfold GA at h
 split at h
 ·rename_i l tok f i
  obtain ⟨⟨rfl,hro,ho,cs,rfl,hc,hy,rfl,rfl⟩,hk⟩:=h
  have hl:=hc.few
  refine VCx.atKeep (R:=fun x=>x=_) (ys1:= [.vec 8 (cs.map ag) .none,lB]) ap (Nat.le_of_ble_eq_true hro) ho rfl (fun f g=>by simp only [VO.ren,mw]) ?_ (Is (by omega) hy fun c h=>(hc.at' c h).1) (fun x hx=>by subst hx;exact ⟨fun _ _=>by simp only [TV.ren,av,aP,Tok.ren],hk⟩)
  refine ⟨?_, .of_eq ?_,trivial⟩
  ·simp only [TV.ren,aP]
   exact .vec 8 _ _
  ·simp [TV.ren,av,bc,lB]
 ·exact h.elim
theorem lD:RowI Tryz.prog 32 48 2:=⟨Tryz.underlying32,⟨(Tryz.prog.info? 48).getD default,((Tryz.prog.info? 48).getD default).zero.getD default,by kernel_rfl,by kernel_rfl,Nat.le_of_ble_eq_true (by kernel_rfl),by kernel_rfl,by kernel_rfl⟩,by omega⟩
theorem It {cs:List Ch} (hl:cs.length≤1000000) (K:KX) (hK:K .normal (aj 19 xz (qm (cs.map ag) .none (an (cs.map (·.1))) ((cs.map ag).length:Nat))) (u7 (an (cs.map (·.1))).length) []):
    VWx Tryz.prog ae none 0 (am Tryz.prog ql 0) (aj 19 xz (qm (cs.map ag) .none [] 0)) (u7 0) [] K:=by
  have hlen:=bL cs
  refine bK (f:=ql) (id:=0) (by kernel_rfl) 19 xz (fun j:Nat=>cs.length-j) (fun j:Nat=>qm (cs.map ag) .none (an ((cs.take j).map (·.1))) (j:Int)) (fun j=>u7 (an ((cs.take j).map (·.1))).length) (fun j=>j≤cs.length) 0 1 (fun j _=>⟨Nat.le_refl _,Nat.le_refl _⟩)
    (fun e vs T=>e= .normal∧vs=qm (cs.map ag) .none (an (cs.map (·.1))) ((cs.map ag).length:Nat)∧T=u7 (an (cs.map (·.1))).length) (fun j hj=> ?_) 0 (Nat.zero_le _) K ?_
  rotate_left
  · rintro e vs T ⟨rfl,rfl,rfl⟩
    exact hK
  by_cases hlt:j<cs.length
  · have hr:=List.getElem?_eq_getElem hlt
    generalize cs[j]=c at hr
    have e1:an ((cs.take (j+1)).map (·.1))=an ((cs.take j).map (·.1))++ [cj c.1]:=by
      rw [bZ hr,List.map_append,←jS];rfl
    have hA:(an ((cs.take j).map (·.1))).length≤j:=by rw [bw,List.length_map,List.length_take];omega
    generalize eA:an ((cs.take j).map (·.1))=A at e1 hA
    refine aI ac aa ai ah (DL (cs.map ag) A (A++ [cj c.1]) .none c.1.1 c.1.2 c.2.1 c.2.2 j (A.length+1) [(A.length+1,2,true)] _) ?_
    refine aN (decide_eq_true (by rw [hlen];omega)) ⟨ng 6 8 rfl hr, ?_, ?_⟩
    · exact lD.app (T:=⟨_, [(A.length,2,true)]⟩) (k:=0) (bn:=true) (es:=A) (es2:= [cj c.1]) rfl rfl (by simp only [List.length_cons,List.length_nil];omega)
    · rw [cf (by omega)]
      refine ⟨rfl,rfl,j+1,hlt,by show cs.length-(j+1)<cs.length-j;omega, .inr ⟨?_, ?_⟩⟩
      · show _=u7 (an ((cs.take (j+1)).map (·.1))).length
        rw [e1,show (A++ [cj c.1]).length=A.length+1 by simp];rfl
      · show _=qm _ _ (an ((cs.take (j+1)).map (·.1))) _
        have h2:bG (au 0) (au 1) (A++ [cj c.1])=A++ [cj c.1]:=by rw [←e1,cd]
        rw [e1]
        simp only [qm,av,TV.ren,aP,Tok.ren,h2,show (A++ [cj c.1]).length=A.length+1 by simp];rfl
  · obtain rfl:j=cs.length:=by omega
    refine aI ac aa ai ah (DL (cs.map ag) (an ((cs.take cs.length).map fun c:Ch=>c.1)) [] .none 0 0 bm true cs.length 0 [] _) (aH (decide_eq_false (by rw [hlen];omega)) ?_)
    rw [List.take_length]
    exact ⟨rfl,rfl,rfl,by simp only [qm,hlen],rfl⟩
theorem LI {cs:List Ch} (hl:cs.length≤1000000):VCx Tryz.prog ae 0 ql [.vec 8 (cs.map ag) .none] ⟨[], []⟩ fun x T' =>x= .vec 2 (an (cs.map (·.1))) .none∧T' =⟨[], []⟩:=by
 refine VCx.toLe (Q:=fun T' =>T' =⟨[], []⟩) (VCx.keepQ 0 0 (Nat.le_refl _) (Nat.le_refl _) (ak ac aa ai (aL fun p hp=> ?_) (Nz (cs.map ag) (an (cs.map (·.1))) .none _) ⟨rfl,⟨rfl,rfl,rfl,⟨rfl,trivial⟩,rfl,rfl,rfl⟩, ?_,rfl⟩))
 ·obtain rfl:=List.mem_singleton.1 hp
  exact aS (It hl)
 ·simp only [TV.ren,cd]
  exact .vec 2 _ _
theorem LJ (l:Bs):∀ro ys T K,Lo l ro ys T K→VCx Tryz.prog ae ro ql ys T K:=by
 intro ro ys T K h
 unfold Lo at h
 split at h
 ·obtain ⟨⟨cs,rfl,hl,rfl⟩,hk⟩:=h
  exact VCx.loosePure ap (LI hl) (by simp [cB]) (by simp only [av,TV.ren,aP,Tok.ren]) (fun _ _=>by simp only [TV.ren,cd,Tok.ren]) hk
 ·exact h.elim
theorem dm (u:UpV) (f g:Nat→Option Nat):av f g u.cells=u.cells:=by
 simp only [UpV.cells,av,TV.ren,cd,dw,Tok.ren]
theorem LK {cs:List Ch} (hl:cs.length≤1000000) (hne:cs≠ []):VCx Tryz.prog ae 0 xy [.vec 8 (cs.map ag) .none] ⟨[], []⟩ fun x T' =>x= .agg (aZ cs).cells∧T' =⟨[], []⟩:=by
 refine VCx.toLe (Q:=fun T' =>T' =⟨[], []⟩) (VCx.keepQ 0 0 (Nat.le_refl _) (Nat.le_refl _) ?_)
 cases cs with
 | nil=>exact absurd rfl hne
 | cons c cs=>
  refine ak ac aa (aE fun p hp=>by obtain rfl:=List.mem_singleton.1 hp;exact LJ _) ah (NA ((c::cs).map ag) (an ((c::cs).map (·.1))) .none c.1.1 c.1.2 c.2.1 c.2.2 _) ⟨xC 3, ?_⟩
  have hof:aZ (c::cs)=bif c.2.2 then ⟨(c::cs).map (·.1),bm, []⟩ else ⟨[],c.2.1,(c::cs).map (·.1)⟩:=rfl
  refine aF (fun hg=> ?_) (fun hg=> ?_)
  ·rw [hg,cond_true] at hof
   refine ⟨⟨c::cs,rfl,hl,rfl⟩, ?_,rfl⟩
   rw [hof]
   simp only [TV.ren,av,cd]
   exact .agg ⟨.vec 2 _ _, .refl _, .nil 1, .refl _, .refl _, .refl _, .nil 2,trivial⟩
  ·rw [hg,cond_false] at hof
   refine ⟨xC 10,⟨c::cs,rfl,hl,rfl⟩,⟨rfl,trivial⟩, ?_,rfl⟩
   rw [hof]
   simp only [TV.ren,av,cd,dw]
   exact .agg ⟨.nil 2, .refl _, .vec 1 _ _, .refl _, .refl _, .refl _, .vec 2 _ _,trivial⟩
theorem DV (w:Bs) (x:AtV) (n:Bs):∀ro ys T K,DI w x n ro ys T K→VCx Tryz.prog ae ro xy ys T K:=by
 intro ro ys T K h
 unfold DI at h
 split at h
 ·obtain ⟨⟨cs,rfl,hne,hl,rfl,rfl,rfl⟩,hk⟩:=h
  exact VCx.loosePure ap (LK hl hne) (by simp [cB]) (by simp only [av,TV.ren,aP,Tok.ren]) (fun _ _=>by simp only [TV.ren,dm]) hk
 ·exact h.elim
end
--PkI
section
open Go.RowKit
set_option maxRecDepth 100000

theorem LL (b:Bool):∀ro ys T K,Lv b ro ys T K→VCx Tryz.prog ae ro N7 ys T K:=by
 intro ro ys T K h
 unfold Lv at h
 split at h
 ·obtain ⟨⟨u,rfl,hu,rfl⟩,hk⟩:=h
  exact VCx.liftPure ap (KT hu) (by simp only [av,TV.ren,dm]) (fun _ _=>rfl) hk
 ·exact h.elim
theorem LM (b:Bs):∀ro ys T K,Lw b ro ys T K→VCx Tryz.prog ae ro N8 ys T K:=by
 intro ro ys T K h
 unfold Lw at h
 split at h
 ·obtain ⟨⟨u,rfl,hu,hg,rfl⟩,hk⟩:=h
  exact VCx.liftPure ap (KV hu hg) (by simp only [av,TV.ren,dm]) (fun _ _=>by simp only [TV.ren,(Du hu hg).ren,Tok.ren]) hk
 ·exact h.elim
theorem LN {u:UpV} (hu:ib u):VCx Tryz.prog ae 0 Gy [.agg u.cells] ⟨[], []⟩ fun x T' =>x= .val (.int .i64 (nd u))∧T' =⟨[], []⟩:=by
  refine VCx.keepQ 0 0 (Nat.le_refl _) (Nat.le_refl _) (ak ac aa (aE fun p hp=> ?_) ah (NJ (an u.w) (an u.n) (qi u) u.a (dO u) _) ⟨⟨u,rfl,hu,rfl⟩, ?_⟩)
  · rcases List.mem_cons.1 hp with rfl | hp;exact LL _
    obtain rfl:=List.mem_singleton.1 hp;exact LM _
  · unfold nd
    cases hg:dO u with
    | false=>exact ⟨rfl,rfl⟩
    | true=>exact ⟨⟨u,rfl,hu,hg,rfl⟩,rfl,rfl⟩
theorem LO (z:Int):∀ro ys T K,Lx z ro ys T K→VCx Tryz.prog ae ro Gy ys T K:=by
 intro ro ys T K h
 unfold Lx at h
 split at h
 ·obtain ⟨⟨u,rfl,hu,rfl⟩,hk⟩:=h
  exact VCx.liftPure ap (LN hu) (by simp only [av,TV.ren,dm]) (fun _ _=>rfl) hk
 ·exact h.elim
theorem DW {cs:List Ch} (h:CsOk cs):ib (aZ cs):=by
 cases cs with
 | nil=>exact ⟨by simp [aZ],by simp [aZ],by simp [aZ,bm],by simp [aZ,bm],by simp [aZ,bm]⟩
 | cons c cs=>
  have h1:=h.few
  have h2:=h.at' c List.mem_cons_self
  have hof:aZ (c::cs)=bif c.2.2 then ⟨(c::cs).map (·.1),bm, []⟩ else ⟨[],c.2.1,(c::cs).map (·.1)⟩:=rfl
  have hl:((c::cs).map fun c:Ch=>c.1).length≤50000:=by rw [List.length_map];exact h1
  rw [hof]
  cases c.2.2 with
  | true=>exact ⟨hl,Nat.zero_le _,Nat.zero_le _,Int.le_refl 0,(by decide:(0:Int)<4294967296)⟩
  | false=>exact ⟨Nat.zero_le _,hl,h2.1,h2.2.1,h2.2.2⟩
theorem DX (f g:Nat→Option Nat):VO.ren f g ly=ly:=rfl
theorem LP {cs:List Ch} (h:CsOk cs) (hne:cs≠ []):VCx Tryz.prog ae 0 sI [.vec 8 (cs.map ag) .none, .ptr 0 0] ⟨[ly], []⟩ fun x T' =>x= .val (.bool (ci cs))∧T' =⟨[ly], []⟩:=by
 have h1:=h.few
 refine VCx.keepQ 1 0 (Nat.le_refl _) (Nat.le_refl _) (ak ac aa (aE fun p hp=> ?_) ah (NB (cs.map ag) (an (aZ cs).w) (an (aZ cs).n) .none (aZ cs).a (nd (aZ cs)) _) ⟨⟨cs,rfl,hne,by omega,rfl,rfl,rfl⟩,⟨aZ cs,rfl,DW h,rfl⟩,rfl,rfl⟩)
 rcases List.mem_cons.1 hp with rfl | hp;exact DV _ _ _
 obtain rfl:=List.mem_singleton.1 hp;exact LO _
theorem LQ (b:Bool):∀ro ys T K,Gz b ro ys T K→VCx Tryz.prog ae ro sI ys T K:=by
 intro ro ys T K h
 unfold Gz at h
 split at h
 ·rename_i l tok i
  obtain ⟨⟨hro,ho,cs,rfl,hne,hc,rfl⟩,hk⟩:=h
  refine VCx.atKeep (R:=fun x=>x= .val (.bool (ci cs))) (ys1:= [.vec 8 (cs.map ag) .none, .ptr 0 0]) ap (Nat.le_of_ble_eq_true hro) ho rfl DX ?_ (LP hc hne) (fun x hx=>by subst hx;exact ⟨fun _ _=>rfl,hk⟩)
  refine ⟨?_, .of_eq ?_,trivial⟩
  ·simp only [TV.ren,aP]
   exact .vec 8 _ _
  ·simp [TV.ren,bc]
 ·exact h.elim
theorem tV (may:List Ch→Bool) (l:List Ch):∀f n,n≤nf may l f n∧(n≤l.length→nf may l f n≤l.length)
 | 0,n=>⟨Nat.le_refl _,fun h=>h⟩
 | f+1,n=>by
  unfold nf
  cases hb:decide (n<l.length)&&may (l.take (n+1)) with
  | false=>exact ⟨Nat.le_refl _,fun h=>h⟩
  | true=>
   simp only [Bool.and_eq_true,decide_eq_true_eq] at hb
   have:=tV may l f (n+1)
   exact ⟨Nat.le_trans (Nat.le_succ n) this.1,fun h=>this.2 hb.1⟩
theorem ni (may:List Ch→Bool) (l:List Ch):1≤cL may l:=(tV may l _ _).1
theorem Iu {may:List Ch→Bool} {l:List Ch} (h:l≠ []):cL may l≤l.length:=(tV may l _ _).2 (List.length_pos_iff.2 h)
theorem jB (may:List Ch→Bool) (f:Nat):e8 may f []= []:=by cases f<;>rfl
theorem qu (may:List Ch→Bool):∀(f g:Nat) (l:List Ch),l.length≤f→l.length≤g→e8 may f l=e8 may g l
 | 0,g,l,h,_=>by
  obtain rfl:l= []:=List.eq_nil_of_length_eq_zero (by omega)
  rw [jB,jB]
 | f+1,0,l,_,h=>by
  obtain rfl:l= []:=List.eq_nil_of_length_eq_zero (by omega)
  rw [jB,jB]
 | f+1,g+1, [],_,_=>rfl
 | f+1,g+1,c::l,h1,h2=>by
  have h3:=ni may (c::l)
  have h4:((c::l).drop (cL may (c::l))).length≤l.length:=by rw [List.length_drop,List.length_cons];omega
  simp only [List.length_cons] at h1 h2
  show _::e8 may f _=_::e8 may g _
  rw [qu may f g _ (by omega) (by omega)]
theorem qv {l:List Ch} (h:l≠ []):aU l=l.take (cL ci l)::aU (l.drop (cL ci l)):=by
 cases l with
 | nil=>exact absurd rfl h
 | cons c l=>
  have h3:=ni ci (c::l)
  have h4:((c::l).drop (cL ci (c::l))).length≤l.length:=by rw [List.length_drop,List.length_cons];omega
  unfold aU
  rw [←qu ci l.length _ _ h4 (Nat.le_refl _)]
  rfl
theorem Br:aU []= []:=rfl
theorem CsOk.sub {cs ds:List Ch} (h:CsOk cs) (hl:ds.length≤cs.length) (hs:∀c∈ds,c∈cs):CsOk ds:=⟨Nat.le_trans hl h.few,fun c hc=>h.at' c (hs c hc)⟩
theorem CsOk.take {cs:List Ch} (h:CsOk cs) (n:Nat):CsOk (cs.take n):=h.sub (List.length_take_le' n cs) fun _ hc=>List.mem_of_mem_take hc
theorem CsOk.drop {cs:List Ch} (h:CsOk cs) (n:Nat):CsOk (cs.drop n):=h.sub (by rw [List.length_drop];omega) fun _ hc=>List.mem_of_mem_drop hc
theorem qw (cs:List Ch) (n:Nat):(cs.map ag).take n=(cs.take n).map ag:=List.map_take.symm
theorem yw (cs:List Ch) (n:Nat):(cs.map ag).drop n=(cs.drop n).map ag:=List.map_drop.symm
theorem LR (b:Bool):aQ Tryz.prog ae (aw [(sI,Gz b)]):=aE fun p hp=>by obtain rfl:=List.mem_singleton.1 hp;exact LQ b
theorem Iv {l:List Ch} (h:CsOk l) (hne:l≠ []) (o:Bs) (K:KX) (hK:K .normal (aj 35 qn (oX (l.map ag) .none o (cL ci l:Nat))) (ii o.length) []):
    VWx Tryz.prog ae none 0 (am Tryz.prog ir 2) (aj 35 qn (oX (l.map ag) .none o 1)) (ii o.length) [] K:=by
  have hlen:=bL l
  have hf:=h.few
  refine bK (f:=ir) (id:=2) (by kernel_rfl) 35 qn (fun k:Nat=>l.length-k) (fun k:Nat=>oX (l.map ag) .none o (k:Int)) (fun _=>ii o.length) (fun k=>1≤k∧k≤l.length∧nf ci l (l.length+1-k) k=cL ci l) 1 1 (fun j _=>⟨Nat.le_refl _,Nat.le_refl _⟩)
    (fun e vs T=>e= .normal∧vs=oX (l.map ag) .none o (cL ci l:Nat)∧T=ii o.length) (fun k ⟨h1,h2,h3⟩=> ?_) 1 ⟨Nat.le_refl _,List.length_pos_iff.2 hne,rfl⟩ K ?_
  rotate_left
  · rintro e vs T ⟨rfl,rfl,rfl⟩
    exact hK
  rw [show l.length+1-k=(l.length-k)+1 by omega] at h3
  unfold nf at h3
  refine aI ac aa (LR (ci (l.take (k+1)))) ah (DN (l.map ag) ((l.take (k+1)).map ag) o .none k (ci (l.take (k+1))) _) ?_
  by_cases hlt:k<l.length
  · rw [decide_eq_true hlt,Bool.true_and] at h3
    rw [cf (by omega)]
    refine aN (decide_eq_true (by rw [hlen];omega)) ⟨?_,⟨rfl,rfl,l.take (k+1),rfl, ?_,h.take _,rfl⟩, ?_⟩
    · have:=oT.hi (G:=ae) (es:=l.map ag) (tok:= .none) (x:=16) (i:=18) (j:=k+1) rfl (by omega)
      rw [qw] at this
      exact this
    · intro e
      have:=congrArg List.length e
      rw [List.length_take,List.length_nil] at this
      omega
    · refine aF (fun hb=> ?_) (fun hb=> ?_)
      · rw [hb,cond_true] at h3
        exact ⟨rfl,rfl,k+1,⟨by omega,hlt,by rw [show l.length+1-(k+1)=l.length-k by omega];exact h3⟩,by show l.length-(k+1)<l.length-k;omega, .inl ⟨rfl,rfl⟩⟩
      · rw [hb,cond_false] at h3
        exact ⟨rfl,rfl,rfl,by rw [←h3];rfl,rfl⟩
  · rw [decide_eq_false hlt,Bool.false_and,cond_false] at h3
    refine aH (decide_eq_false (by rw [hlen];omega)) ?_
    exact ⟨rfl,rfl,rfl,by rw [←h3];rfl,rfl⟩
theorem FO (o:Bs) (K:KX) (hK:K .normal (aj 35 qn (oX [] .none o (cL ci []:Nat))) (ii o.length) []):
    VWx Tryz.prog ae none 0 (am Tryz.prog ir 2) (aj 35 qn (oX [] .none o 1)) (ii o.length) [] K:=by
  refine bK (f:=ir) (id:=2) (by kernel_rfl) 35 qn (fun _:Unit=>0) (fun _=>oX [] .none o 1) (fun _=>ii o.length) (fun _=>True) 1 1 (fun j _=>⟨Nat.le_refl _,Nat.le_refl _⟩)
    (fun e vs T=>e= .normal∧vs=oX [] .none o (cL ci []:Nat)∧T=ii o.length) (fun k _=> ?_) () trivial K ?_
  rotate_left
  · rintro e vs T ⟨rfl,rfl,rfl⟩
    exact hK
  exact aI ac aa (LR true) ah (DN [] [] o .none 1 true _) (aH rfl ⟨rfl,rfl,rfl,rfl,rfl⟩)
def cQ (l:List Ch):List TV:= [.vec 8 (l.map ag) .none]
theorem Oc:RowI Tryz.prog 76 22 1:=⟨Tryz.underlying76,⟨(Tryz.prog.info? 22).getD default,((Tryz.prog.info? 22).getD default).zero.getD default,by kernel_rfl,by kernel_rfl,Nat.le_of_ble_eq_true (by kernel_rfl),by kernel_rfl,by kernel_rfl⟩,by omega⟩
theorem Iw {cs:List Ch} (h:CsOk cs) (K:KX) (hK:K .normal (aj 35 xA (sL [] .none ((aU cs).map cQ))) (ii ((aU cs).map cQ).length) []):
    VWx Tryz.prog ae none 0 (am Tryz.prog ir 0) (aj 35 xA (sL (cs.map ag) .none [])) (ii 0) [] K:=by
  refine bK (f:=ir) (id:=0) (by kernel_rfl) 35 xA (fun s:List (List Ch) × List Ch=>s.2.length) (fun s=>sL (s.2.map ag) .none (s.1.map cQ)) (fun s=>ii (s.1.map cQ).length) (fun s=>s.1++aU s.2=aU cs∧CsOk s.2∧s.1.length+s.2.length≤50000) 1 1 (fun j _=>⟨Nat.le_refl _,Nat.le_refl _⟩)
    (fun e vs T=>e= .normal∧vs=sL [] .none ((aU cs).map cQ)∧T=ii ((aU cs).map cQ).length) (fun s ⟨h1,h2,h3⟩=> ?_) ([],cs) ⟨rfl,h,by have:=h.few;simpa using this⟩ K ?_
  rotate_left
  · rintro e vs T ⟨rfl,rfl,rfl⟩
    exact hK
  obtain ⟨d,l⟩:=s
  simp only at h1 h2 h3
  have hlen:=bL l
  have hdl:(d.map cQ).length=d.length:=List.length_map _
  by_cases hne:l= []
  · subst hne
    refine aI ac aa ai (aL fun p hp=> ?_) (DM [] [] [] (d.map cQ) [] .none (cL ci []) 0 [] _) (aH rfl ?_)
    · obtain rfl:=List.mem_singleton.1 hp
      exact aS (FO _)
    · rw [Br,List.append_nil] at h1
      rw [←h1]
      exact ⟨rfl,rfl,rfl,rfl,rfl⟩
  · have hpos:=List.length_pos_iff.2 hne
    have he:=ni ci l
    have he2:=Iu (may:=ci) hne
    have e2:(d++ [l.take (cL ci l)]).map cQ=d.map cQ++ [cQ (l.take (cL ci l))]:=by rw [List.map_append];rfl
    have e3:((d++ [l.take (cL ci l)]).map cQ).length=(d.map cQ).length+1:=by rw [e2];simp
    refine aI ac aa ai (aL fun p hp=> ?_) (DM (l.map ag) ((l.drop (cL ci l)).map ag) ((l.take (cL ci l)).map ag) (d.map cQ) ((d++ [l.take (cL ci l)]).map cQ) .none (cL ci l) ((d.map cQ).length+1) [((d.map cQ).length+1,1,true)] _) (aN (decide_eq_true (by rw [hlen];omega)) ⟨rfl,⟨rfl,rfl,rfl,trivial,rfl,rfl,rfl⟩, ?_, ?_, ?_, ?_⟩)
    · obtain rfl:=List.mem_singleton.1 hp
      exact aS (Iv h2 hne _)
    · have:=oT.hm (G:=ae) (es:=l.map ag) (tok:= .none) (x:=25) (i:=26) (k:=27) (j:=cL ci l) rfl rfl rfl (by omega)
      rw [qw] at this
      exact this
    · have:=oT.lo (G:=ae) (es:=l.map ag) (tok:= .none) (x:=31) (i:=32) (j:=cL ci l) rfl (by omega)
      rw [yw] at this
      exact this
    · have:=Oc.app (G:=ae) (T:=⟨[ly], [((d.map cQ).length,1,true)]⟩) (k:=0) (bn:=true) (es:=d.map cQ) (es2:= [cQ (l.take (cL ci l))]) (tok:= .full) (s:=24) (x:=29) rfl rfl (by simp only [List.length_cons,List.length_nil];omega)
      rw [e2]
      exact this
    · refine ⟨rfl,rfl,(d++ [l.take (cL ci l)],l.drop (cL ci l)),⟨?_,h2.drop _, ?_⟩, ?_, .inl ⟨?_, ?_⟩⟩
      · rw [←h1,qv hne];simp
      · simp only [List.length_append,List.length_cons,List.length_nil,List.length_drop];omega
      · show (l.drop (cL ci l)).length<l.length
        rw [List.length_drop];omega
      · show _=ii ((d++ [l.take (cL ci l)]).map cQ).length
        rw [e3];rfl
      · show _=sL _ _ ((d++ [l.take (cL ci l)]).map cQ)
        unfold sL
        rw [e3];rfl
end
--PkJ
section
open Go.RowKit
set_option maxRecDepth 100000

theorem LS {cs:List Ch} (h:CsOk cs):VCx Tryz.prog ae 0 ir [.vec 8 (cs.map ag) .none,zv] ⟨[ly], []⟩ fun x T' =>x= .vec 1 ((aU cs).map cQ) .none∧T' =⟨[ly], []⟩:=by
  refine VCx.toLe (Q:=fun T' =>T' =⟨[ly], []⟩) (VCx.keepQ 1 0 (Nat.le_refl _) (Nat.le_refl _) (ak ac aa ai (aL fun p hp=> ?_) (NC (cs.map ag) ((aU cs).map cQ) .none _) ⟨rfl,⟨rfl,rfl,rfl,⟨rfl,trivial⟩,rfl,rfl,rfl⟩, ?_,rfl⟩))
  · obtain rfl:=List.mem_singleton.1 hp
    exact aS (Iw h)
  · have:∀f g,bG f g ((aU cs).map cQ)=(aU cs).map cQ:=fun f g=>fT cQ (fun l=>by simp only [cQ,av,TV.ren,aP,Tok.ren]) _
    simp only [TV.ren,this]
    exact .vec 1 _ _
theorem LT (f g:Nat→Option Nat) (l:List (List Ch)):bG f g (l.map cQ)=l.map cQ:=fT cQ (fun l=>by simp only [cQ,av,TV.ren,aP,Tok.ren]) _
theorem LU (c:Bs):∀ro ys T K,Lp c ro ys T K→VCx Tryz.prog ae ro ir ys T K:=by
 intro ro ys T K h
 unfold Lp at h
 split at h
 ·rename_i l tok f i
  obtain ⟨⟨rfl,hro,ho,cs,rfl,hc,rfl⟩,hk⟩:=h
  refine VCx.atKeep (R:=fun x=>x=_) (ys1:= [.vec 8 (cs.map ag) .none,zv]) ap (Nat.le_of_ble_eq_true hro) ho rfl DX ?_ (LS hc) (fun x hx=>by subst hx;exact ⟨fun _ _=>by simp only [TV.ren,LT,Tok.ren],hk⟩)
  refine ⟨?_, .of_eq ?_,trivial⟩
  ·simp only [TV.ren,aP]
   exact .vec 8 _ _
  ·simp [TV.ren,av,bc,zv]
 ·exact h.elim
theorem ve (may:List Ch→Bool):∀(f:Nat) (l:List Ch),l.length≤f→(e8 may f l).flatten=l∧(∀c∈e8 may f l,c≠ [])∧(e8 may f l).length≤l.length
  | 0,l,h=>by
    obtain rfl:l= []:=List.eq_nil_of_length_eq_zero (by omega)
    exact ⟨rfl,fun c h=>(by cases h),Nat.le_refl _⟩
  | f+1, [],_=>⟨rfl,fun c h=>(by cases h),Nat.le_refl _⟩
  | f+1,c::l,h=>by
    have h3:=ni may (c::l)
    have h4:((c::l).drop (cL may (c::l))).length≤l.length:=by rw [List.length_drop,List.length_cons];omega
    simp only [List.length_cons] at h
    obtain ⟨i1,i2,i3⟩:=ve may f ((c::l).drop (cL may (c::l))) (by omega)
    have e:e8 may (f+1) (c::l)=(c::l).take (cL may (c::l))::e8 may f ((c::l).drop (cL may (c::l))):=rfl
    rw [e]
    refine ⟨?_,fun d hd=> ?_, ?_⟩
    · rw [List.flatten_cons,i1,List.take_append_drop]
    · rcases List.mem_cons.1 hd with rfl | hd
      · intro e0
        have:=congrArg List.length e0
        rw [List.length_take,List.length_nil,List.length_cons] at this
        omega
      · exact i2 d hd
    · rw [List.length_cons,List.length_cons];omega
theorem jd (l:List Ch):(aU l).flatten=l∧(∀c∈aU l,c≠ [])∧(aU l).length≤l.length:=ve ci _ l (Nat.le_refl _)
theorem sV {l c:List Ch} (h:c∈aU l) {x:Ch} (hx:x∈c):x∈l:=by
 rw [←(jd l).1]
 exact List.mem_flatten.2 ⟨c,h,hx⟩
theorem sW {l c:List Ch} (h:c∈aU l):c.length≤l.length:=by
 conv=>rhs;rw [←(jd l).1]
 exact (List.sublist_flatten_of_mem h).length_le
theorem nj (l:List Ch):(bR l).length≤l.length:=by unfold bR;rw [List.length_map];exact (jd l).2.2
theorem LV:RowI Tryz.prog 25 56 7:=⟨Tryz.underlying25,⟨(Tryz.prog.info? 56).getD default,((Tryz.prog.info? 56).getD default).zero.getD default,by kernel_rfl,by kernel_rfl,Nat.le_of_ble_eq_true (by kernel_rfl),by kernel_rfl,by kernel_rfl⟩,by omega⟩
theorem bH (f g:Nat→Option Nat) (us:List UpV):bG f g (us.map UpV.cells)=us.map UpV.cells:=fT UpV.cells (fun u=>dm u f g) us
theorem LW (w:Bs) (x:AtV) (n:Bs):aQ Tryz.prog ae (aw [(xy,DI w x n)]):=aE fun p hp=>by obtain rfl:=List.mem_singleton.1 hp;exact DV w x n
theorem Ix {cs:List Ch} (h:CsOk cs) (K:KX) (hK:K .normal (aj 23 u9 (oY ((aU cs).map cQ) ((bR cs).map UpV.cells) (((aU cs).map cQ).length:Nat))) (sM ((bR cs).map UpV.cells).length) []):
    VWx Tryz.prog ae none 0 (am Tryz.prog lv 0) (aj 23 u9 (oY ((aU cs).map cQ) [] 0)) (sM 0) [] K:=by
  have hf:=h.few
  obtain ⟨hfl,hnn,hcl⟩:=jd cs
  have hlen:((aU cs).map cQ).length=(aU cs).length:=List.length_map _
  refine bK (f:=lv) (id:=0) (by kernel_rfl) 23 u9 (fun j:Nat=>(aU cs).length-j) (fun j:Nat=>oY ((aU cs).map cQ) ((((aU cs).take j).map aZ).map UpV.cells) (j:Int)) (fun j=>sM ((((aU cs).take j).map aZ).map UpV.cells).length) (fun j=>j≤(aU cs).length) 1 1 (fun j _=>⟨Nat.le_refl _,Nat.le_refl _⟩)
    (fun e vs T=>e= .normal∧vs=oY ((aU cs).map cQ) ((bR cs).map UpV.cells) (((aU cs).map cQ).length:Nat)∧T=sM ((bR cs).map UpV.cells).length) (fun j hj=> ?_) 0 (Nat.zero_le _) K ?_
  rotate_left
  · rintro e vs T ⟨rfl,rfl,rfl⟩
    exact hK
  by_cases hlt:j<(aU cs).length
  · have hr:=List.getElem?_eq_getElem hlt
    have hm:(aU cs)[j]∈aU cs:=List.getElem_mem hlt
    generalize (aU cs)[j]=c at hr hm
    have e1:(((aU cs).take (j+1)).map aZ).map UpV.cells=(((aU cs).take j).map aZ).map UpV.cells++ [(aZ c).cells]:=by
      rw [bZ hr,List.map_append,List.map_append];rfl
    have hA:((((aU cs).take j).map aZ).map UpV.cells).length≤j:=by rw [List.length_map,List.length_map,List.length_take];omega
    show VWx _ _ _ _ _ (aj 23 u9 (oY ((aU cs).map cQ) ((((aU cs).take j).map aZ).map UpV.cells) (j:Int))) (sM ((((aU cs).take j).map aZ).map UpV.cells).length) _ _
    generalize eA:(((aU cs).take j).map aZ).map UpV.cells=A at e1 hA
    have hcl2:=sW hm
    refine aI ac aa (LW _ _ _) ah (DO ((aU cs).map cQ) A (A++ [(aZ c).cells]) (c.map ag) (an (aZ c).w) (an (aZ c).n) (aZ c).a j (A.length+1) [(A.length+1,7,true)] _) ?_
    refine aN (decide_eq_true (by rw [hlen];omega)) ⟨Oc.ix rfl (by simp [hr];rfl),⟨c,rfl,hnn c hm,by omega,rfl,rfl,rfl⟩, ?_, ?_⟩
    · exact LV.app (T:=⟨_, [(A.length,7,true)]⟩) (k:=0) (bn:=true) (es:=A) (es2:= [(aZ c).cells]) rfl rfl (by simp only [List.length_cons,List.length_nil];omega)
    · rw [cf (by omega)]
      have e2:(A++ [(aZ c).cells]).length=A.length+1:=by simp
      refine ⟨rfl,rfl,j+1,hlt,by show (aU cs).length-(j+1)<(aU cs).length-j;omega, .inl ⟨?_, ?_⟩⟩
      · show _=sM ((((aU cs).take (j+1)).map aZ).map UpV.cells).length
        rw [e1,e2];rfl
      · show _=oY _ ((((aU cs).take (j+1)).map aZ).map UpV.cells) _
        rw [e1];unfold oY;rw [e2]
  · obtain rfl:j=(aU cs).length:=by omega
    have hu:(((aU cs).take (aU cs).length).map aZ).map UpV.cells=(bR cs).map UpV.cells:=by rw [List.take_length];rfl
    rw [hu]
    refine aI ac aa (LW _ _ _) ah (DO ((aU cs).map cQ) ((bR cs).map UpV.cells) [] [] [] [] bm (aU cs).length 0 [] _) (aH (decide_eq_false (by rw [hlen];omega)) ?_)
    exact ⟨rfl,rfl,rfl,by simp only [oY,hlen],rfl⟩
theorem DY {cs:List Ch} (h:CsOk cs):VCx Tryz.prog ae 0 lv [.vec 8 (cs.map ag) .none] ⟨[], []⟩ fun x T' =>x= .vec 7 ((bR cs).map UpV.cells) (.tail 0 ((bR cs).map UpV.cells).length)∧T' =⟨[], [(((bR cs).map UpV.cells).length,7,true)]⟩:=by
 refine VCx.keepQ 0 1 (Nat.le_refl _) (Nat.zero_le _) (ak ac aa (aE fun p hp=> ?_) (aL fun p hp=> ?_) (ND (cs.map ag) ((aU cs).map cQ) ((bR cs).map UpV.cells) .none _) ⟨⟨rfl,rfl,rfl,cs,rfl,h,rfl⟩,rfl,⟨rfl,rfl,rfl,⟨rfl,trivial⟩,rfl,rfl,rfl⟩, ?_,rfl⟩)
 ·obtain rfl:=List.mem_singleton.1 hp;exact LU _
 ·obtain rfl:=List.mem_singleton.1 hp
  exact aS (Ix h)
 ·simp only [TV.ren,bH,Tok.ren];rfl
theorem LX (u:Bs):∀ro ys T K,Lr u ro ys T K→VCx Tryz.prog ae ro lv ys T K:=by
 intro ro ys T K h
 unfold Lr at h
 split at h
 ·obtain ⟨⟨rfl,cs,rfl,hc,rfl⟩,hk⟩:=h
  refine VCx.argsLe (xs:= [.vec 8 (cs.map ag) .none]) ⟨.vec 8 _ _,trivial⟩ ?_
  refine (VCx.lift (xs:= [.vec 8 (cs.map ag) .none]) (T:=T) [] [] ap List.nodup_nil List.nodup_nil (by simp) (by simp) (by simp) (by simp only [av,TV.ren,aP,Tok.ren]) (by rw [VT.give_nil];exact DY hc) (fun _ _ _=>⟨Nat.zero_le _,Nat.zero_le _⟩)).mono ?_
  rintro z T' ⟨x,T'',⟨rfl,rfl⟩,rfl,rfl⟩
  rw [VT.back_nil]
  simpa [TV.ren,Tok.ren,bH,ba] using hk
 ·exact h.elim
theorem LY (u:Bs):∀ro ys T K,GB u ro ys T K→VCx Tryz.prog ae ro lv ys T K:=by
 intro ro ys T K h
 unfold GB at h
 split at h
 ·obtain ⟨⟨cs,rfl,hc,rfl⟩,hk⟩:=h
  have hv:VCx Tryz.prog ae 0 lv [.vec 8 (cs.map ag) .none] ⟨[], []⟩ fun x T' =>x= .vec 7 ((bR cs).map UpV.cells) .none∧T' =⟨[], []⟩:=
   VCx.toLe (Q:=fun T' =>T' =⟨[], []⟩) (VCx.keepQ 0 0 (Nat.le_refl _) (Nat.le_refl _) ((DY hc).mono fun x T' ⟨h1,h2⟩=>by
    subst h1 h2
    refine ⟨?_,rfl⟩
    simp only [TV.ren,bH]
    exact .vec 7 _ _))
  exact VCx.loosePure ap hv (by simp [cB]) (by simp only [av,TV.ren,aP,Tok.ren]) (fun _ _=>by simp only [TV.ren,bH,Tok.ren]) hk
 ·exact h.elim
theorem fN (f:Nat):lu f []= []:=by cases f<;>rfl
theorem kG (c:Ch) (l:List Ch) (f:Ch→Bool) (hf:f c=true):((c::l).filter fun x=> !f x).length≤l.length∧((c::l).filter f).length+((c::l).filter fun x=> !f x).length=(c::l).length:=by
 have h1:((c::l).filter f).length+((c::l).filter fun x=> !f x).length=(c::l).length:=by
  have:∀m:List Ch,(m.filter f).length+(m.filter fun x=> !f x).length=m.length:=fun m=>by
   induction m with
   | nil=>rfl
   | cons a m ih=>
    rw [List.filter_cons,List.filter_cons]
    cases f a<;>simp<;>omega
  exact this _
 refine ⟨?_,h1⟩
 rw [List.filter_cons]
 simp only [hf,Bool.not_true,Bool.false_eq_true,if_false]
 exact List.length_filter_le _ _
theorem jC:∀(f g:Nat) (l:List Ch),l.length≤f→l.length≤g→lu f l=lu g l
 | 0,g,l,h,_=>by
  obtain rfl:l= []:=List.eq_nil_of_length_eq_zero (by omega)
  rw [fN,fN]
 | f+1,0,l,_,h=>by
  obtain rfl:l= []:=List.eq_nil_of_length_eq_zero (by omega)
  rw [fN,fN]
 | f+1,g+1, [],_,_=>rfl
 | f+1,g+1,c::l,h1,h2=>by
  have h3:=(kG c l (fun x=>decide (x.2.1=c.2.1)) (by simp)).1
  simp only [List.length_cons] at h1 h2
  show _++lu f _=_++lu g _
  rw [jC f g _ (by omega) (by omega)]
def cW (l:List Ch):List UpV:=lu l.length l
theorem jD (c:Ch) (l:List Ch):cW (c::l)=bR ((c::l).filter fun x=>decide (x.2.1=c.2.1))++cW ((c::l).filter fun x=> !decide (x.2.1=c.2.1)):=by
 have h3:=(kG c l (fun x=>decide (x.2.1=c.2.1)) (by simp)).1
 unfold cW
 rw [←jC l.length _ _ h3 (Nat.le_refl _)]
 rfl
theorem CsOk.filter {cs:List Ch} (h:CsOk cs) (f:Ch→Bool):CsOk (cs.filter f):=h.sub (List.length_filter_le f cs) fun _ hc=>(List.mem_filter.1 hc).1
theorem LZ (x:AtV) (a b u:Bs):aQ Tryz.prog ae (aw [(gu,GA x a b),(lv,GB u)]):=aE fun p hp=>by
 rcases List.mem_cons.1 hp with rfl | hp;exact LH _ _ _
 obtain rfl:=List.mem_singleton.1 hp;exact LY _
theorem Iy {cs:List Ch} (h:CsOk cs) {u0:List UpV} (hu0:u0.length+cs.length≤50000) (K:KX) (hK:K .normal (aj 34 xB (sN [] ((u0++cW cs).map UpV.cells))) (va ((u0++cW cs).map UpV.cells).length) []):
    VWx Tryz.prog ae none 0 (am Tryz.prog qk 0) (aj 34 xB (sN (cs.map ag) (u0.map UpV.cells))) (va (u0.map UpV.cells).length) [] K:=by
  refine bK (f:=qk) (id:=0) (by kernel_rfl) 34 xB (fun s:List Ch × List UpV=>s.1.length) (fun s=>sN (s.1.map ag) (s.2.map UpV.cells)) (fun s=>va (s.2.map UpV.cells).length) (fun s=>s.2++cW s.1=u0++cW cs∧CsOk s.1∧s.2.length+s.1.length≤50000) 0 1 (fun j _=>⟨Nat.le_refl _,Nat.le_refl _⟩)
    (fun e vs T=>e= .normal∧vs=sN [] ((u0++cW cs).map UpV.cells)∧T=va ((u0++cW cs).map UpV.cells).length) (fun s ⟨h1,h2,h3⟩=> ?_) (cs,u0) ⟨rfl,h,hu0⟩ K ?_
  rotate_left
  · rintro e vs T ⟨rfl,rfl,rfl⟩
    exact hK
  obtain ⟨l,us⟩:=s
  simp only at h1 h2 h3
  have hul:(us.map UpV.cells).length=us.length:=List.length_map _
  cases l with
  | nil=>
    refine aI ac aa (LZ bm [] [] []) ah (DP [] [] [] (us.map UpV.cells) [] [] 0 0 bm true 0 [] _) (aH rfl ?_)
    have:us=u0++cW cs:=by rw [←h1];simp [cW,fN]
    rw [←this]
    exact ⟨rfl,rfl,rfl,rfl,rfl⟩
  | cons c l=>
    have hlen:=bL (c::l)
    obtain ⟨f1,f2⟩:=kG c l (fun x=>decide (x.2.1=c.2.1)) (by simp)
    have hpc:=jD c l
    generalize hA:((c::l).filter fun x=>decide (x.2.1=c.2.1))=A at f2 hpc
    generalize hB:((c::l).filter fun x=> !decide (x.2.1=c.2.1))=B at f1 f2 hpc
    have hul2:=nj A
    have e2:(us++bR A).map UpV.cells=us.map UpV.cells++(bR A).map UpV.cells:=List.map_append
    have hcu:((bR A).map UpV.cells).length=(bR A).length:=List.length_map _
    simp only [List.length_cons] at h3 f2
    refine aI ac aa (LZ c.2.1 (A.map ag) (B.map ag) ((bR A).map UpV.cells)) ah (DP ((c::l).map ag) (A.map ag) (B.map ag) (us.map UpV.cells) ((bR A).map UpV.cells) ((us++bR A).map UpV.cells) c.1.1 c.1.2 c.2.1 c.2.2 ((us.map UpV.cells).length+((bR A).map UpV.cells).length) [((us.map UpV.cells).length+((bR A).map UpV.cells).length,7,true)] _)
      (aN (decide_eq_true (by rw [hlen,List.length_cons];omega)) ⟨xC 19,⟨rfl,rfl,rfl,c::l,rfl,h2,(h2.at' c List.mem_cons_self).1,by rw [hA],by rw [hB]⟩,⟨A,rfl,hA▸h2.filter _,rfl⟩, ?_, ?_⟩)
    · rw [e2]
      exact LV.app (T:=⟨_, [((us.map UpV.cells).length,7,true)]⟩) (k:=0) (bn:=true) (es:=us.map UpV.cells) (es2:=(bR A).map UpV.cells) rfl rfl (by omega)
    · have e3:((us++bR A).map UpV.cells).length=(us.map UpV.cells).length+((bR A).map UpV.cells).length:=by rw [e2,List.length_append]
      refine ⟨rfl,rfl,(B,us++bR A),⟨?_, ?_, ?_⟩, ?_, .inr ⟨?_, ?_⟩⟩
      rotate_left
      · show CsOk B
        rw [←hB];exact h2.filter _
      rotate_right
      · show (us++bR A)++cW B=_
        rw [←h1,hpc,List.append_assoc]
      · show (us++bR A).length+B.length≤50000
        rw [List.length_append];omega
      · show B.length<(c::l).length
        rw [List.length_cons];omega
      · show _=va ((us++bR A).map UpV.cells).length
        rw [e3];rfl
      · show _=sN (B.map ag) ((us++bR A).map UpV.cells)
        unfold sN
        rw [e3]
        simp only [av,TV.ren,aP,bH,Tok.ren];rfl
def tW:Bs→List Int
 | []=> []
 | [.val (.int _ z)]::l=>z::tW l
 | _::l=>tW l
theorem zw:∀l:List Int,tW (iV l)=l
 | []=>rfl
 | a::l=>by
  have:=zw l
  simp only [iV,List.map_cons] at this ⊢
  show a::tW _=_
  rw [this]
def ra:List TV→Ch
 | [.val (.int _ a), .val (.int _ n), .val (.int _ o), .vec _ p _, .val (.int _ h), .val (.int _ m), .val (.bool hm), .val (.bool g)]=>((a,n),⟨o,tW p,h,m,hm⟩,g)
 | _=>((0,0),bm,false)
theorem FP (c:Ch):ra (ag c)=c:=by
 obtain ⟨⟨a,n⟩,⟨o,p,h,m,hm⟩,g⟩:=c
 show ((a,n),(⟨o,tW (iV p),h,m,hm⟩:AtV),g)=_
 rw [zw]
theorem iJ (cs:List Ch):(cs.map ag).map ra=cs:=by
 rw [List.map_map]
 conv=>rhs;rw [←List.map_id cs]
 exact List.map_congr_left fun c _=>FP c
def GF (l:Bs):Bs:=(bt (l.map ra)).map ag
theorem DZ (cs:List Ch):GF (cs.map ag)=(bt cs).map ag:=by unfold GF;rw [iJ]
theorem L0:∀ro ys T K,Ls GF ro ys T K→VCx Tryz.prog ae ro e6 ys T K:=by
 intro ro ys T K h
 unfold Ls at h
 split at h
 ·obtain ⟨⟨cs,rfl,hc⟩,hk⟩:=h
  have hf:=hc.few
  rw [DZ] at hk
  exact VCx.loosePure ap (DH (by omega) (fun c h=>(hc.at' c h).1) .none) (by simp [cB]) (by simp only [av,TV.ren,aP,Tok.ren]) (fun _ _=>by simp only [TV.ren,aP,Tok.ren]) hk
 ·exact h.elim
theorem nk {cs:List Ch} {c:Ch}:c∈bt cs ↔ c∈aJ cs cs.length:=by
 unfold bt
 rw [List.mem_map]
 constructor
 ·rintro ⟨p,hp,rfl⟩
  have hp:p∈fK cs:=(List.mergeSort_perm _ _).mem_iff.1 hp
  unfold fK at hp
  obtain ⟨d,hd,rfl⟩:=List.mem_map.1 hp
  unfold oW
  rw [pJ hd]
  exact hd
 ·intro h
  refine ⟨c.1,(List.mergeSort_perm _ _).mem_iff.2 (List.mem_map_of_mem h), ?_⟩
  unfold oW
  rw [pJ h];rfl
theorem tX {cs:List Ch} (h:CsOk cs):CsOk (bt cs):=h.sub (by rw [qZ];exact sG _) fun c hc=>by
 obtain ⟨i,_,h2,_⟩:=kE.1 (nk.1 hc)
 exact List.mem_of_getElem? h2
theorem D0 {cs:List Ch} (h:CsOk cs):VCx Tryz.prog ae 0 qk [.vec 8 (cs.map ag) .none] ⟨[], []⟩ fun x T' =>x= .vec 7 ((bQ cs).map UpV.cells) .none∧T' =⟨[], []⟩:=by
  have ho:=tX h
  have hg:bQ cs=bR ((bt cs).filter fun c=>c.2.2)++cW ((bt cs).filter fun c=> !c.2.2):=by
    unfold bQ cW
    rw [jC _ _ _ (List.length_filter_le _ _) (Nat.le_refl _)]
  have hul:=nj ((bt cs).filter fun c=>c.2.2)
  have hsum:((bt cs).filter fun c=>c.2.2).length+((bt cs).filter fun c=> !c.2.2).length=(bt cs).length:=by
    have:∀m:List Ch,(m.filter fun c=>c.2.2).length+(m.filter fun c=> !c.2.2).length=m.length:=fun m=>by
      induction m with
      | nil=>rfl
      | cons a m ih=>
        rw [List.filter_cons,List.filter_cons]
        cases a.2.2<;>simp<;>omega
    exact this _
  have hf:=ho.few
  rw [hg]
  refine VCx.toLe (Q:=fun T' =>T' =⟨[], []⟩) (VCx.keepQ 0 0 (Nat.le_refl _) (Nat.le_refl _) (ak ac aa (aE fun p hp=> ?_) (aL fun p hp=> ?_) (NE (cs.map ag) (((bt cs).filter fun c=>c.2.2).map ag) (((bt cs).filter fun c=> !c.2.2).map ag) ((bR ((bt cs).filter fun c=>c.2.2)).map UpV.cells) ((bR ((bt cs).filter fun c=>c.2.2)++cW ((bt cs).filter fun c=> !c.2.2)).map UpV.cells) .none GF _)
    ⟨⟨cs,rfl,h⟩,⟨rfl,bt cs,DZ cs,by omega,rfl,rfl⟩,⟨rfl,_,rfl,ho.filter _,rfl⟩,rfl,⟨rfl,rfl,rfl,trivial,rfl,rfl,rfl⟩, ?_,rfl⟩))
  · rcases List.mem_cons.1 hp with rfl | hp;exact L0
    rcases List.mem_cons.1 hp with rfl | hp;exact LG _ _
    obtain rfl:=List.mem_singleton.1 hp;exact LX _
  · obtain rfl:=List.mem_singleton.1 hp
    exact aS (Iy (ho.filter _) (by omega))
  · simp only [TV.ren,bH]
    exact .vec 7 _ _
theorem L1 (u:Bs):∀ro ys T K,Lt u ro ys T K→VCx Tryz.prog ae ro qk ys T K:=by
 intro ro ys T K h
 unfold Lt at h
 split at h
 ·obtain ⟨⟨cs,hl,hc,rfl⟩,hk⟩:=h
  refine VCx.argsLe (xs:= [.vec 8 (cs.map ag) .none]) ⟨hl _,trivial⟩ ?_
  exact VCx.liftPure ap (D0 hc) (by simp only [av,TV.ren,aP,Tok.ren]) (fun _ _=>by simp only [TV.ren,bH,Tok.ren]) hk
 ·exact h.elim
end
--PkK
section
open Go.RowKit
set_option maxRecDepth 100000

def aO (s:Ch × Bool):List TV:=bif s.2 then [.val (.int .u32 s.1.1.1), .val (.int .i64 s.1.1.2), .val (.int .i64 0), .val (.slice none 0 0), .val (.int .u32 0), .val (.int .i64 0), .val (.bool false), .val (.bool true)] else ag s.1
theorem Iz (s:Ch × Bool) (f g:Nat→Option Nat):av f g (aO s)=aO s:=by
 unfold aO
 cases s.2
 ·exact gU _ f g
 ·rfl
theorem iK (f g:Nat→Option Nat) (l:List (Ch × Bool)):bG f g (l.map aO)=l.map aO:=fT aO (fun u=>Iz u f g) l
def bJ (w:List Px):List (Ch × Bool):=w.map fun p=>((p,bm,true),true)
def b9 (a:AtV) (n:List Px):List (Ch × Bool):=n.map fun p=>((p,a,false),false)
def bP (us:List UpV):List (Ch × Bool):=us.flatMap fun u=>bJ u.w++b9 u.a u.n
theorem pK (us:List UpV):(bP us).map (·.1)=bO us:=by
 unfold bP bO bJ b9
 rw [List.map_flatMap]
 simp only [List.map_append,List.map_map]
 rfl
theorem D3 {us:List UpV}:∀s∈bP us,TVleL (aO s) (ag s.1):=by
 intro s hs
 unfold aO
 cases h:s.2 with
 | false=>exact TVleL.refl _
 | true=>
  obtain ⟨u,_,hs⟩:=List.mem_flatMap.1 hs
  rcases List.mem_append.1 hs with hs | hs
  ·obtain ⟨p,_,rfl⟩:=List.mem_map.1 hs
   exact ⟨.refl _, .refl _, .refl _, .nil 1, .refl _, .refl _, .refl _, .refl _,trivial⟩
  ·obtain ⟨p,_,rfl⟩:=List.mem_map.1 hs
   cases h
theorem vD {l:List Px} {j:Nat} {p:Px} {tok:Tok} (x i:Nat) (hne:Nat.beq x i=false) (hp:l[j]?=some p):ax Tryz.prog ae (.indexAddr 32 (.tmp x) (.tmp i)) [(x, .vec 2 (an l) tok),(i, .val (.int .i64 (j:Int)))] (.elt (cj p)):=
 lD.ix hne (by simp [an,hp])
section
variable {us:List UpV} {u:UpV} {tok:Tok} {j:Nat}
def ij (us:List UpV) (tok:Tok) (j:Nat) (v:List Px) (l:List (Ch × Bool)) (i:Nat):List TV:=vc (l.map aO) (us.map UpV.cells) tok j (an v) i
theorem zx (us:List UpV) (j:Nat) (v:List Px) (l:List (Ch × Bool)) (i:Nat):av (au 1) (au 1) (ij us .none j v l i)=ij us .none j v l i:=by
 simp only [ij,vc,av,TV.ren,iK,bH,cd,Tok.ren];rfl
theorem D4 {objs:List VO} {tl:eo} {l:List (Ch × Bool)} {s:Ch × Bool} (y x:Nat) (hk:tl[0]?=some ((l.map aO).length,8,true)) (hne:Nat.beq y x=false) (hl:l.length≤10000000):aB Tryz.prog ae 0 ⟨objs,tl⟩ (.call ⟨.builtin .append, #[.tmp y, .tmp x], #[22,22]⟩) [(y, .vec 8 (l.map aO) (.tail 0 (l.map aO).length)),(x, .vec 8 [aO s] .full)] (.vec 8 ((l++ [s]).map aO) (.tail 0 ((l++ [s]).map aO).length)) ⟨objs,tl.set 0 (((l++ [s]).map aO).length,8,true)⟩:=by
 have e:(l++ [s]).map aO=l.map aO++ [aO s]:=List.map_append
 have e2:((l++ [s]).map aO).length=(l.map aO).length+ [aO s].length:=by rw [e,List.length_append]
 rw [e2,e]
 exact oT.app (T:=⟨objs,tl⟩) hk hne (by simp only [List.length_map,List.length_cons,List.length_nil];omega)
theorem zy (u:UpV) (n:Nat) (o:List VO):VT.keep ⟨.cells u.cells::o, [(n,8,true)]⟩ 1 1=fM (an u.w) u.a (an u.n) n:=by
 have:=dm u (au 1) (au 1)
 simp only [VT.keep,List.take_succ_cons,List.take_zero,List.map_cons,List.map_nil,VO.ren,this]
 rfl
theorem xD (us:List UpV) (u:UpV) (j:Nat) (l0:List (Ch × Bool)) (hl:l0.length+u.w.length≤1000000) (K:KX) (hK:K .normal (aj 46 qr (ij us .none j u.w (l0++bJ u.w) u.w.length)) (fM (an u.w) u.a (an u.n) ((l0++bJ u.w).map aO).length) []):
    VWx Tryz.prog ae none 0 (am Tryz.prog ge 2) (aj 46 qr (ij us .none j u.w l0 0)) (fM (an u.w) u.a (an u.n) (l0.map aO).length) [] K:=by
  have e0:l0++bJ (u.w.take 0)=l0:=by simp [bJ]
  suffices h:VWx Tryz.prog ae none 0 (am Tryz.prog ge 2) (aj 46 qr (ij us .none j u.w (l0++bJ (u.w.take 0)) 0)) (fM (an u.w) u.a (an u.n) ((l0++bJ (u.w.take 0)).map aO).length) [] K by
    rw [e0] at h
    exact h
  refine bK (f:=ge) (id:=2) (by kernel_rfl) 46 qr (fun i:Nat=>u.w.length-i) (fun i:Nat=>ij us .none j u.w (l0++bJ (u.w.take i)) i) (fun i=>fM (an u.w) u.a (an u.n) ((l0++bJ (u.w.take i)).map aO).length) (fun i=>i≤u.w.length) 1 1 (fun j _=>⟨Nat.le_refl _,Nat.le_refl _⟩)
    (fun e vs T=>e= .normal∧vs=ij us .none j u.w (l0++bJ u.w) u.w.length∧T=fM (an u.w) u.a (an u.n) ((l0++bJ u.w).map aO).length) (fun i hi=> ?_) 0 (Nat.zero_le _) K ?_
  rotate_left
  · rintro e vs T ⟨rfl,rfl,rfl⟩
    exact hK
  have hlen:=bw u.w
  have hln:(l0++bJ (u.w.take i)).length≤l0.length+i:=by rw [List.length_append];unfold bJ;rw [List.length_map,List.length_take];omega
  by_cases hlt:i<u.w.length
  · have hr:=List.getElem?_eq_getElem hlt
    generalize u.w[i]=p at hr
    have e1:l0++bJ (u.w.take (i+1))=(l0++bJ (u.w.take i))++ [((p,bm,true),true)]:=by
      rw [bZ hr,List.append_assoc];unfold bJ;rw [List.map_append];rfl
    show VWx _ _ _ _ _ (aj 46 qr (ij us .none j u.w (l0++bJ (u.w.take i)) i)) (fM (an u.w) u.a (an u.n) ((l0++bJ (u.w.take i)).map aO).length) _ _
    generalize eA:l0++bJ (u.w.take i)=A at e1 hln
    refine aI ac aa ai ah (DR (A.map aO) ((A++ [((p,bm,true),true)]).map aO) (us.map UpV.cells) (an u.w) (an u.n) (an u.w) u.a .none p.1 p.2 j i ((A++ [((p,bm,true),true)]).map aO).length [(((A++ [((p,bm,true),true)]).map aO).length,8,true)] _) ?_
    refine aN (decide_eq_true (by rw [hlen];omega)) ⟨vD 17 19 rfl hr, ?_, ?_⟩
    · exact D4 (l:=A) (s:=((p,bm,true),true)) (tl:= [((A.map aO).length,8,true)]) 23 26 rfl rfl (by omega)
    · rw [cf (by omega)]
      refine ⟨rfl,rfl,i+1,hlt,by show u.w.length-(i+1)<u.w.length-i;omega, .inr ⟨?_, ?_⟩⟩
      · show _=fM _ _ _ ((l0++bJ (u.w.take (i+1))).map aO).length
        rw [e1]
        exact zy u _ _
      · show _=ij us .none j u.w (l0++bJ (u.w.take (i+1))) (i+1)
        rw [e1]
        exact zx us j u.w _ (i+1)
  · obtain rfl:i=u.w.length:=by omega
    show VWx _ _ _ _ _ (aj 46 qr (ij us .none j u.w (l0++bJ (u.w.take u.w.length)) u.w.length)) (fM (an u.w) u.a (an u.n) ((l0++bJ (u.w.take u.w.length)).map aO).length) _ _
    rw [List.take_length]
    refine aI ac aa ai ah (DR ((l0++bJ u.w).map aO) [] (us.map UpV.cells) (an u.w) (an u.n) (an u.w) u.a .none 0 0 j u.w.length 0 [] _) (aH (decide_eq_false (by rw [hlen];omega)) ?_)
    exact ⟨rfl,rfl,rfl,rfl,rfl⟩
theorem xE (us:List UpV) (u:UpV) (j:Nat) (l0:List (Ch × Bool)) (hl:l0.length+u.n.length≤1000000) (K:KX) (hK:K .normal (aj 46 qt (ij us .none j u.n (l0++b9 u.a u.n) u.n.length)) (fM (an u.w) u.a (an u.n) ((l0++b9 u.a u.n).map aO).length) []):
    VWx Tryz.prog ae none 0 (am Tryz.prog ge 4) (aj 46 qt (ij us .none j u.n l0 0)) (fM (an u.w) u.a (an u.n) (l0.map aO).length) [] K:=by
  have e0:l0++b9 u.a (u.n.take 0)=l0:=by simp [b9]
  suffices h:VWx Tryz.prog ae none 0 (am Tryz.prog ge 4) (aj 46 qt (ij us .none j u.n (l0++b9 u.a (u.n.take 0)) 0)) (fM (an u.w) u.a (an u.n) ((l0++b9 u.a (u.n.take 0)).map aO).length) [] K by
    rw [e0] at h
    exact h
  refine bK (f:=ge) (id:=4) (by kernel_rfl) 46 qt (fun i:Nat=>u.n.length-i) (fun i:Nat=>ij us .none j u.n (l0++b9 u.a (u.n.take i)) i) (fun i=>fM (an u.w) u.a (an u.n) ((l0++b9 u.a (u.n.take i)).map aO).length) (fun i=>i≤u.n.length) 1 1 (fun j _=>⟨Nat.le_refl _,Nat.le_refl _⟩)
    (fun e vs T=>e= .normal∧vs=ij us .none j u.n (l0++b9 u.a u.n) u.n.length∧T=fM (an u.w) u.a (an u.n) ((l0++b9 u.a u.n).map aO).length) (fun i hi=> ?_) 0 (Nat.zero_le _) K ?_
  rotate_left
  · rintro e vs T ⟨rfl,rfl,rfl⟩
    exact hK
  have hlen:=bw u.n
  have hln:(l0++b9 u.a (u.n.take i)).length≤l0.length+i:=by rw [List.length_append];unfold b9;rw [List.length_map,List.length_take];omega
  by_cases hlt:i<u.n.length
  · have hr:=List.getElem?_eq_getElem hlt
    generalize u.n[i]=p at hr
    have e1:l0++b9 u.a (u.n.take (i+1))=(l0++b9 u.a (u.n.take i))++ [((p,u.a,false),false)]:=by
      rw [bZ hr,List.append_assoc];unfold b9;rw [List.map_append];rfl
    show VWx _ _ _ _ _ (aj 46 qt (ij us .none j u.n (l0++b9 u.a (u.n.take i)) i)) (fM (an u.w) u.a (an u.n) ((l0++b9 u.a (u.n.take i)).map aO).length) _ _
    generalize eA:l0++b9 u.a (u.n.take i)=A at e1 hln
    refine aI ac aa ai ah (DS (A.map aO) ((A++ [((p,u.a,false),false)]).map aO) (us.map UpV.cells) (an u.w) (an u.n) (an u.n) u.a .none p.1 p.2 j i ((A++ [((p,u.a,false),false)]).map aO).length [(((A++ [((p,u.a,false),false)]).map aO).length,8,true)] _) ?_
    refine aN (decide_eq_true (by rw [hlen];omega)) ⟨vD 30 32 rfl hr, ?_, ?_⟩
    · exact D4 (l:=A) (s:=((p,u.a,false),false)) (tl:= [((A.map aO).length,8,true)]) 36 41 rfl rfl (by omega)
    · rw [cf (by omega)]
      refine ⟨rfl,rfl,i+1,hlt,by show u.n.length-(i+1)<u.n.length-i;omega, .inr ⟨?_, ?_⟩⟩
      · show _=fM _ _ _ ((l0++b9 u.a (u.n.take (i+1))).map aO).length
        rw [e1]
        exact zy u _ _
      · show _=ij us .none j u.n (l0++b9 u.a (u.n.take (i+1))) (i+1)
        rw [e1]
        exact zx us j u.n _ (i+1)
  · obtain rfl:i=u.n.length:=by omega
    show VWx _ _ _ _ _ (aj 46 qt (ij us .none j u.n (l0++b9 u.a (u.n.take u.n.length)) u.n.length)) (fM (an u.w) u.a (an u.n) ((l0++b9 u.a (u.n.take u.n.length)).map aO).length) _ _
    rw [List.take_length]
    refine aI ac aa ai ah (DS ((l0++b9 u.a u.n).map aO) [] (us.map UpV.cells) (an u.w) (an u.n) (an u.n) u.a .none 0 0 j u.n.length 0 [] _) (aH (decide_eq_false (by rw [hlen];omega)) ?_)
    exact ⟨rfl,rfl,rfl,rfl,rfl⟩
end
theorem GG {us:List UpV} {j:Nat} {u:UpV} {tok:Tok} (x i:Nat) (hne:Nat.beq x i=false) (hp:us[j]?=some u):ax Tryz.prog ae (.indexAddr 25 (.tmp x) (.tmp i)) [(x, .vec 7 (us.map UpV.cells) tok),(i, .val (.int .i64 (j:Int)))] (.elt u.cells):=
 LV.ix hne (by simp [hp])
theorem xF {us:List UpV} {j:Nat} {u:UpV} (h:us[j]?=some u):bP (us.take (j+1))=bP (us.take j)++bJ u.w++b9 u.a u.n:=by
 unfold bP
 rw [bZ h,List.flatMap_append]
 simp [List.append_assoc]
theorem oZ (us:List UpV) (j:Nat):(bP (us.take j)).length≤(bP us).length:=by
 have:(bP (us.take j)++bP (us.drop j)).length=(bP us).length:=by
  unfold bP
  rw [←List.flatMap_append,List.take_append_drop]
 rw [List.length_append] at this
 omega
theorem IA {us:List UpV} (h1:us.length≤50000) (h2:(bP us).length≤1000000) (K:KX) (hK:K .normal (aj 46 sO (nO ((bP us).map aO) (us.map UpV.cells) .none ((us.map UpV.cells).length:Nat))) (qp ((bP us).map aO).length) []):
    VWx Tryz.prog ae none 0 (am Tryz.prog ge 0) (aj 46 sO (nO [] (us.map UpV.cells) .none 0)) (qp 0) [] K:=by
  have hlen:(us.map UpV.cells).length=us.length:=List.length_map _
  refine bK (f:=ge) (id:=0) (by kernel_rfl) 46 sO (fun j:Nat=>us.length-j) (fun j:Nat=>nO ((bP (us.take j)).map aO) (us.map UpV.cells) .none (j:Int)) (fun j=>qp ((bP (us.take j)).map aO).length) (fun j=>j≤us.length) 0 1 (fun j _=>⟨Nat.le_refl _,Nat.le_refl _⟩)
    (fun e vs T=>e= .normal∧vs=nO ((bP us).map aO) (us.map UpV.cells) .none ((us.map UpV.cells).length:Nat)∧T=qp ((bP us).map aO).length) (fun j hj=> ?_) 0 (Nat.zero_le _) K ?_
  rotate_left
  · rintro e vs T ⟨rfl,rfl,rfl⟩
    exact hK
  by_cases hlt:j<us.length
  · have hr:=List.getElem?_eq_getElem hlt
    generalize us[j]=u at hr
    have e1:=xF hr
    have hln:=oZ us (j+1)
    have hln2:(bP (us.take (j+1))).length=(bP (us.take j)).length+u.w.length+u.n.length:=by
      rw [e1,List.length_append,List.length_append];unfold bJ b9;rw [List.length_map,List.length_map]
    show VWx _ _ _ _ _ (aj 46 sO (nO ((bP (us.take j)).map aO) (us.map UpV.cells) .none (j:Int))) (qp ((bP (us.take j)).map aO).length) _ _
    generalize eA:bP (us.take j)=A at e1 hln2
    have hw:(A++bJ u.w).length=A.length+u.w.length:=by rw [List.length_append];unfold bJ;rw [List.length_map]
    refine aI ac aa ai (aL fun p hp=> ?_) (DQ (A.map aO) ((A++bJ u.w).map aO) ((A++bJ u.w++b9 u.a u.n).map aO) (us.map UpV.cells) (an u.w) (an u.n) u.a .none j _) (aN (decide_eq_true (by rw [hlen];omega)) ⟨GG 10 12 rfl hr,rfl,⟨rfl,rfl,rfl,trivial,rfl,rfl,rfl⟩,rfl,⟨rfl,rfl,rfl,trivial,rfl,rfl,rfl⟩, ?_⟩)
    · rcases List.mem_cons.1 hp with rfl | hp
      · refine aS fun K hK=>xD us u j A (by omega) K ?_
        rw [bw] at hK
        exact hK
      · obtain rfl:=List.mem_singleton.1 hp
        refine aS fun K hK=>xE us u j (A++bJ u.w) (by omega) K ?_
        rw [bw] at hK
        exact hK
    · rw [cf (by omega)]
      refine ⟨rfl,rfl,j+1,hlt,by show us.length-(j+1)<us.length-j;omega, .inr ⟨?_, ?_⟩⟩
      · show _=qp ((bP (us.take (j+1))).map aO).length
        rw [e1];rfl
      · show _=nO ((bP (us.take (j+1))).map aO) _ _ _
        rw [e1]
        simp only [nO,av,TV.ren,iK,bH,Tok.ren];rfl
  · obtain rfl:j=us.length:=by omega
    show VWx _ _ _ _ _ (aj 46 sO (nO ((bP (us.take us.length)).map aO) (us.map UpV.cells) .none (us.length:Int))) (qp ((bP (us.take us.length)).map aO).length) _ _
    rw [List.take_length]
    refine aI ac aa ai (aL fun p hp=> ?_) (DQ ((bP us).map aO) ((bP us++bJ []).map aO) ((bP us++bJ []++b9 bm []).map aO) (us.map UpV.cells) (an (UpV.mk [] bm []).w) (an (UpV.mk [] bm []).n) bm .none us.length _) (aH (decide_eq_false (by rw [hlen];omega)) ?_)
    · rcases List.mem_cons.1 hp with rfl | hp
      · exact aS fun K hK=>xD us ⟨[],bm, []⟩ us.length (bP us) (by simpa using h2) K hK
      · obtain rfl:=List.mem_singleton.1 hp
        exact aS fun K hK=>xE us ⟨[],bm, []⟩ us.length (bP us++bJ []) (by simpa [bJ] using h2) K hK
    · exact ⟨rfl,rfl,rfl,by simp only [nO,hlen],rfl⟩
theorem TVle.vecMem {α:Type} {size:Nat} {f g:α→List TV} {l:List α} (h:∀a∈l,TVleL (f a) (g a)):TVle (.vec size (l.map f) .none) (.vec size (l.map g) .none):=by
  have hf:TVleL (l.map f).flatten (l.map g).flatten:=by
    induction l with
    | nil=>trivial
    | cons a l ih=>
      have:∀{x y u v:List TV},TVleL x y→TVleL u v→TVleL (x++u) (y++v):=by
        intro x
        induction x with
        | nil=>
          intro y u v h1 h2
          cases y with
          | nil=>exact h2
          | cons=>exact h1.elim
        | cons a x ih=>
          intro y u v h1 h2
          cases y with
          | nil=>exact h1.elim
          | cons b y=>exact ⟨h1.1,ih h1.2 h2⟩
      exact this (h a List.mem_cons_self) (ih fun b hb=>h b (List.mem_cons_of_mem _ hb))
  intro gh w u hu
  rcases hu.vec_inv with ⟨rfl,he,_⟩ | ⟨b,o,c,us,rfl,f1,f2,f3,f4,f5,f6,f7,f8⟩ | ⟨a,rfl,he,_⟩
  · have:l= []:=by simpa using he
    subst this;exact .nil trivial
  · have hl:=hf.at.1
    refine .mk_vec (by simp) (by simpa using f1) f2 (fun e he=> ?_) trivial (hf.vrs f5) (fun j hj=>f6 j (by omega)) f7 f8
    obtain ⟨a,ha,rfl⟩:=List.mem_map.1 he
    rw [←(h a ha).at.1]
    exact f3 _ (List.mem_map_of_mem ha)
  · have:l= []:=by simpa using he
    subst this;exact .odd a trivial
theorem L2 {us:List UpV} (h1:us.length≤50000) (h2:(bO us).length≤1000000):VCx Tryz.prog ae 0 ge [.vec 7 (us.map UpV.cells) .none] ⟨[], []⟩ fun x T' =>x= .vec 8 ((bO us).map ag) .none∧T' =⟨[], []⟩:=by
 have h3:(bP us).length≤1000000:=by rw [←pK,List.length_map] at h2;exact h2
 refine VCx.toLe (Q:=fun T' =>T' =⟨[], []⟩) (VCx.keepQ 0 0 (Nat.le_refl _) (Nat.le_refl _) (ak ac aa ai (aL fun p hp=> ?_) (NF ((bP us).map aO) (us.map UpV.cells) .none _) ⟨rfl,⟨rfl,rfl,rfl,⟨rfl,trivial⟩,rfl,rfl,rfl⟩, ?_,rfl⟩))
 ·obtain rfl:=List.mem_singleton.1 hp
  exact aS (IA h1 h3)
 ·simp only [TV.ren,iK]
  intro g w v hv
  have h4:=TVle.vecMem (size:=8) (f:=aO) (g:=fun s=>ag s.1) (l:=bP us) D3 g w v (eQ hv)
  rw [show (bP us).map (fun s=>ag s.1)=(bO us).map ag by rw [←pK,List.map_map];rfl] at h4
  exact h4
theorem L3 (c d:Ch) (h1:c.2.1.p.length≤9223372036854775807) (h2:d.2.1.p.length≤9223372036854775807):VCx Tryz.prog ae 0 nN [.agg (ag c), .agg (ag d)] ⟨[], []⟩ fun x T' =>x= .val (.bool (decide (c=d)))∧T' =⟨[], []⟩:=by
 refine VCx.keepQ 0 0 (Nat.le_refl _) (Nat.le_refl _) (ak ac aa (LF _) ah (NI c.1.1 c.1.2 d.1.1 d.1.2 c.2.1 d.2.1 c.2.2 d.2.2 (decide (c.2.1=d.2.1)) _) ?_)
 obtain ⟨p,a,g⟩:=c
 obtain ⟨q,b,k⟩:=d
 show cond (aG BinOp.eql (ar (dz p) (dz q))) _ _
 rw [Ok]
 refine aF (fun hp=> ?_) (fun hp=> ?_)
 ·obtain rfl:=of_decide_eq_true hp
  show cond (aG BinOp.eql (ar (Value.bool g) (Value.bool k))) _ _
  rw [show aG BinOp.eql (ar (Value.bool g) (Value.bool k))=decide (g=k) by cases g<;>cases k<;>rfl]
  refine aF (fun hg=> ?_) (fun hg=> ?_)
  ·obtain rfl:=of_decide_eq_true hg
   refine ⟨⟨a,b,⟨rfl,rfl⟩,⟨h1,h2⟩,rfl⟩, ?_,rfl⟩
   simp only [TV.ren,Prod.mk.injEq,true_and,and_true]
  ·refine ⟨?_,rfl⟩
   have:=of_decide_eq_false hg
   simp only [TV.ren,Prod.mk.injEq,this,and_false,decide_false]
 ·refine ⟨?_,rfl⟩
  have:=of_decide_eq_false hp
  simp only [TV.ren,Prod.mk.injEq,this,false_and,decide_false]
theorem L5 (b:Bool):∀ro ys T K,GC b ro ys T K→VCx Tryz.prog ae ro nN ys T K:=by
 intro ro ys T K h
 unfold GC at h
 split at h
 ·obtain ⟨⟨c,d,rfl,rfl,h1,h2,rfl⟩,hk⟩:=h
  exact VCx.liftPure ap (L3 c d h1 h2) (by simp only [av,TV.ren,gU]) (fun _ _=>rfl) hk
 ·exact h.elim
theorem L6 (b:Bool):aQ Tryz.prog ae (aw [(nN,GC b)]):=aE fun p hp=>by obtain rfl:=List.mem_singleton.1 hp;exact L5 b
theorem IB {cs ds:List Ch} (hc:CsOk cs) (hd:CsOk ds) (hl:cs.length=ds.length) (K:KX) (hK:bif decide (cs=ds) then K .normal (aj 32 sP (nP (cs.map ag) (ds.map ag) .none .none ((cs.map ag).length:Nat))) ⟨[], []⟩ [] else ∀(jj:Int) (oo:List VO),K .ret (aj 32 sP (nP (cs.map ag) (ds.map ag) .none .none jj)) ⟨oo, []⟩ []):
    VWx Tryz.prog ae none 0 (am Tryz.prog lx 0) (aj 32 sP (nP (cs.map ag) (ds.map ag) .none .none 0)) ⟨[], []⟩ [] K:=by
  have hlen:=bL cs
  have hf:=hc.few
  refine bK (f:=lx) (id:=0) (by kernel_rfl) 32 sP (fun j:Nat=>cs.length-j) (fun j:Nat=>nP (cs.map ag) (ds.map ag) .none .none (j:Int)) (fun _=>⟨[], []⟩) (fun j=>j≤cs.length∧cs.take j=ds.take j) 0 0 (fun j _=>⟨Nat.le_refl _,Nat.le_refl _⟩)
    (fun e vs T=>(cs=ds∧T=⟨[], []⟩∧e= .normal∧vs=nP (cs.map ag) (ds.map ag) .none .none ((cs.map ag).length:Nat))∨(cs≠ds∧e= .ret∧∃(jj:Int) (oo:List VO),T=⟨oo, []⟩∧vs=nP (cs.map ag) (ds.map ag) .none .none jj)) (fun j ⟨hj,ht⟩=> ?_) 0 ⟨Nat.zero_le _,rfl⟩ K ?_
  rotate_left
  · rintro e vs T (⟨h1,rfl,rfl,rfl⟩ | ⟨h1,rfl,jj,oo,rfl,rfl⟩)
    · rw [decide_eq_true h1,cond_true] at hK;exact hK
    · rw [decide_eq_false h1,cond_false] at hK;exact hK jj oo
  by_cases hlt:j<cs.length
  · have hr:=List.getElem?_eq_getElem hlt
    have hm:cs[j]∈cs:=List.getElem_mem hlt
    have hlt2:j<ds.length:=by omega
    have hr2:=List.getElem?_eq_getElem hlt2
    have hm2:ds[j]∈ds:=List.getElem_mem hlt2
    generalize cs[j]=c at hr hm
    generalize ds[j]=d at hr2 hm2
    refine aI ac aa (L6 (decide (c=d))) ah (DT (cs.map ag) (ds.map ag) .none .none c.1.1 c.1.2 d.1.1 d.1.2 c.2.1 d.2.1 c.2.2 d.2.2 (decide (c=d)) j _) ?_
    refine aN (decide_eq_true (by rw [hlen];omega)) ⟨ng 15 17 rfl hr,ng 22 23 rfl hr2,⟨c,d,rfl,rfl,(hc.at' c hm).1,(hd.at' d hm2).1,rfl⟩, ?_⟩
    cases hcd:decide (c=d) with
    | true=>
      obtain rfl:=of_decide_eq_true hcd
      refine aH rfl ?_
      rw [cf (by omega)]
      exact ⟨rfl,rfl,j+1,⟨hlt,by rw [bZ hr,bZ hr2,ht]⟩,by show cs.length-(j+1)<cs.length-j;omega, .inr ⟨rfl,by simp only [nP,av,TV.ren,aP,Tok.ren]⟩⟩
    | false=>
      refine aN rfl ⟨rfl,rfl, .inr ⟨fun e=> ?_,rfl,_,_,rfl,rfl⟩⟩
      subst e
      rw [hr] at hr2;injection hr2 with hr2
      exact of_decide_eq_false hcd hr2
  · obtain rfl:j=cs.length:=by omega
    refine aI ac aa (L6 true) ah (DT (cs.map ag) (ds.map ag) .none .none 0 0 0 0 bm bm true true true cs.length _) (aH (decide_eq_false (by rw [hlen];omega)) ?_)
    refine ⟨rfl,rfl, .inl ⟨?_,rfl,rfl,by simp only [nP,hlen]⟩⟩
    rw [List.take_length] at ht
    rw [ht,hl,List.take_length]
theorem D5 (c:Code):eP Tryz.prog ae (Ly c):=aL fun p hp=>by obtain rfl:=List.mem_singleton.1 hp;exact fun _ _ _ _ _ _ h=>h.elim
theorem L7 {cs ds:List Ch} (hc:CsOk cs) (hd:CsOk ds):VCx Tryz.prog ae 0 lx [.vec 8 (cs.map ag) .none, .vec 8 (ds.map ag) .none, .fn (.func nN) [] []] ⟨[], []⟩ fun x T' =>x= .val (.bool (decide (cs=ds)))∧T' =⟨[], []⟩:=by
  have hf:=hc.few
  have hg:=hd.few
  by_cases hl:cs.length=ds.length
  · refine VCx.keepQ 0 0 (Nat.le_refl _) (Nat.le_refl _) (ak ac aa ai (aL fun p hp=> ?_) (NH (cs.map ag) (ds.map ag) .none .none (decide (cs=ds)) _) ?_)
    · obtain rfl:=List.mem_singleton.1 hp
      exact aS (IB hc hd hl)
    · rw [lg,bL,bL,hl]
      refine aH (by simp) ⟨rfl,⟨rfl,rfl,rfl,trivial,rfl,rfl,by rw [←hl,←bL cs]⟩, ?_⟩
      cases hcd:decide (cs=ds) with
      | true=>exact ⟨rfl,rfl⟩
      | false=>exact fun jj oo=>⟨rfl,rfl⟩
  · have hcd:decide (cs=ds)=false:=decide_eq_false fun e=>hl (by rw [e])
    rw [hcd]
    refine VCx.keepQ 0 0 (Nat.le_refl _) (Nat.le_refl _) (ak ac aa ai (D5 _) (LD (cs.map ag) (ds.map ag) .none .none _) (aN ?_ ⟨rfl,rfl⟩))
    rw [lg,bL,bL]
    simp only [Bool.not_eq_true',decide_eq_false_iff_not]
    omega
end
--PkL
section
open Go.RowKit

theorem xG {l:List Px} (h:l.Nodup):(gz l).Pairwise cU:=by
 have h1:=xr l
 have h2:(gz l).Nodup:=(List.mergeSort_perm l _).nodup_iff.2 h
 refine List.Pairwise.imp₂ ?_ h1 h2
 intro a b h3 h4
 exact Classical.byContradiction fun hc=>h4 (jA hc h3)
theorem FQ (cs:List Ch):(bt cs).map (·.1)=gz (fK cs):=by
 unfold bt
 rw [List.map_map]
 conv=>rhs;rw [←List.map_id (gz (fK cs))]
 rfl
theorem vg {cs:List Ch} {p:Px} {v:AtV × Bool}:(p,v)∈bt cs ↔ lr cs p=some v:=
 ⟨fun h=>pJ (nk.1 h),fun h=>nk.2 (zu h)⟩
theorem vh {cs:List Ch} {c:Ch} (h:c∈bt cs):cC c=true:=by
 obtain ⟨i,_,h2,h3⟩:=kE.1 (nk.1 h)
 obtain ⟨_,d,h4,h5,_⟩:=oU h3
 rw [h2] at h4;injection h4 with h4;subst h4;exact h5
theorem FR {L:List Ch} {p:Px} {v:AtV × Bool} (h:lr L p=some v):(p,v)∈L:=by
 obtain ⟨i,_,h2,_⟩:=kE.1 (zu h)
 exact List.mem_of_getElem? h2
def Like (l:List Ch):Prop:=(∀c∈l,c.2=(bm,true))∨∃a,∀c∈l,c.2=(a,false)
theorem D6 {l:List Ch} (hl:Like l) (hne:l≠ []):bO [aZ l]=l:=by
 cases l with
 | nil=>exact absurd rfl hne
 | cons c l=>
  have hof:aZ (c::l)=bif c.2.2 then ⟨(c::l).map (·.1),bm, []⟩ else ⟨[],c.2.1,(c::l).map (·.1)⟩:=rfl
  unfold bO
  rw [List.flatMap_cons,List.flatMap_nil,List.append_nil]
  rcases hl with h | ⟨a,h⟩
  ·have h1:=h c List.mem_cons_self
   rw [hof,h1]
   simp only [cond_true,List.map_nil,List.append_nil,List.map_map]
   conv=>rhs;rw [←List.map_id (c::l)]
   refine List.map_congr_left fun d hd=> ?_
   simp only [Function.comp_apply,id_eq]
   rw [←h d hd]
  ·have h1:=h c List.mem_cons_self
   rw [hof,h1]
   simp only [cond_false,List.map_nil,List.nil_append,List.map_map]
   conv=>rhs;rw [←List.map_id (c::l)]
   refine List.map_congr_left fun d hd=> ?_
   simp only [Function.comp_apply,id_eq]
   rw [←h d hd]
theorem nl (a b:List UpV):bO (a++b)=bO a++bO b:=List.flatMap_append
theorem Like.sub {l m:List Ch} (h:Like l) (hs:∀c∈m,c∈l):Like m:=by
 rcases h with h | ⟨a,h⟩
 ·exact .inl fun c hc=>h c (hs c hc)
 ·exact .inr ⟨a,fun c hc=>h c (hs c hc)⟩
theorem sX {l:List Ch} (hl:Like l):bO (bR l)=l:=by
 obtain ⟨h1,h2,_⟩:=jd l
 unfold bR
 conv=>rhs;rw [←h1]
 have:∀L:List (List Ch),(∀c∈L,c≠ []∧Like c)→bO (L.map aZ)=L.flatten:=fun L=>by
  induction L with
  | nil=>intro _;rfl
  | cons c L ih=>
   intro h
   rw [List.map_cons,List.flatten_cons,←ih fun d hd=>h d (List.mem_cons_of_mem _ hd),show aZ c::L.map aZ= [aZ c]++L.map aZ from rfl,nl,D6 (h c List.mem_cons_self).2 (h c List.mem_cons_self).1]
 exact this _ fun c hc=>⟨h2 c hc,hl.sub fun x hx=>sV hc hx⟩
theorem lQ (f:Ch→Bool) (l:List Ch):(l.filter f++l.filter fun c=> !f c).Perm l:=List.filter_append_perm f l
theorem o3:∀(n:Nat) (l:List Ch),l.length≤n→(∀c∈l,c.2.2=false)→(bO (cW l)).Perm l
 | _, [],_,_=>by unfold cW;rw [fN];exact List.Perm.refl _
 | 0,c::l,h,_=>by simp at h
 | n+1,c::l,h,hg=>by
  have h3:=(kG c l (fun x=>decide (x.2.1=c.2.1)) (by simp)).1
  rw [jD,nl]
  have ih:=o3 n ((c::l).filter fun x=> !decide (x.2.1=c.2.1)) (by simp only [List.length_cons] at h;omega) fun d hd=>hg d (List.mem_filter.1 hd).1
  rw [sX (.inr ⟨c.2.1,fun d hd=>by
   obtain ⟨h1,h2⟩:=List.mem_filter.1 hd
   have h4:=hg d h1
   rw [←of_decide_eq_true h2,←h4]⟩)]
  exact (List.Perm.append_left _ ih).trans (lQ (fun x=>decide (x.2.1=c.2.1)) (c::l))
theorem vi {cs:List Ch}:Like ((bt cs).filter fun c=>c.2.2):= .inl fun c hc=>by
 obtain ⟨h1,h2⟩:=List.mem_filter.1 hc
 have hg:=vh h1
 obtain ⟨p,a,g⟩:=c
 simp only at h2
 subst h2
 unfold cC uX at hg
 simp only [cond_true,Bool.and_eq_true,decide_eq_true_eq] at hg
 rw [hg.2]
theorem rc (cs:List Ch):bQ cs=bR ((bt cs).filter fun c=>c.2.2)++cW ((bt cs).filter fun c=> !c.2.2):=by
 unfold bQ cW
 rw [jC _ _ _ (List.length_filter_le _ _) (Nat.le_refl _)]
theorem yx (cs:List Ch):(bO (bQ cs)).Perm (bt cs):=by
 rw [rc,nl,sX vi]
 refine (List.Perm.append_left _ (o3 _ _ (Nat.le_refl _) fun c hc=> ?_)).trans (lQ (fun c=>c.2.2) (bt cs))
 have:=(List.mem_filter.1 hc).2
 simpa using this
theorem pL (fl t:Int) (v:Bs):(ep fl t v).length≤4+v.length:=by
 have:=wW fl v
 unfold ep uO
 rw [List.length_append,List.length_take]
 cases mo fl<;>simp only [cond_true,cond_false,List.length_cons,List.length_nil]<;>omega
theorem IC (l:List Int):(gq (iV l)).length≤2+2*l.length:=by
 unfold gq
 cases hb:(iV l).isEmpty with
 | true=>simp
 | false=>
  have:(uS (iV l)).length=l.length:=by simp [uS,iV]
  simp only [cond_false,List.length_append,co,jR,this]
  omega
theorem D7 (a:AtV):(jp a).length≤100:=by
 unfold jp
 cases h:cX a with
 | false=>simp
 | true=>
  have hp:=(sy h).p.1
  have h1:=pL 64 1 (bh 1 a.o)
  have h2:=pL 64 2 (gq (iV a.p))
  have h3:=pL 64 3 (bh 4 a.h)
  have h4:=pL 128 4 (bh 4 a.m)
  have h5:=IC a.p
  rw [co] at h1 h3 h4
  simp only [cond_true]
  unfold eZ ga
  rw [List.flatMap_append,List.length_append]
  have e1:([(64,1,bh 1 a.o),(64,2,gq (iV a.p)),(64,3,bh 4 a.h)]:List nL).flatMap (fun r=>ep r.1 r.2.1 r.2.2)=ep 64 1 (bh 1 a.o)++(ep 64 2 (gq (iV a.p))++ep 64 3 (bh 4 a.h)):=by simp
  rw [e1,List.length_append,List.length_append]
  cases a.hm with
  | true=>
   have e2:(bif true then [(128,4,bh 4 a.m)] else []:List nL).flatMap (fun r=>ep r.1 r.2.1 r.2.2)=ep 128 4 (bh 4 a.m):=by simp
   rw [e2]
   have:Int.toNat 4=4:=rfl
   have:Int.toNat 1=1:=rfl
   omega
  | false=>
   have:Int.toNat 4=4:=rfl
   have:Int.toNat 1=1:=rfl
   simp only [cond_false,List.flatMap_nil,List.length_nil]
   omega
theorem FS (u:UpV):nd u≤5*(u.w.length+u.n.length)+104:=by
 unfold nd
 cases dO u with
 | false=>simp only [cond_false];omega
 | true=>
  have h1:=fI u.w
  have h2:=fI u.n
  have h3:=D7 u.a
  have h4:(oQ u).length≤100:=by
   unfold oQ
   cases decide ((u.n.length:Int)>0)
   ·simp
   ·exact h3
  simp only [cond_true]
  unfold qi
  simp only [List.length_append,co]
  have:Int.toNat 2=2:=rfl
  omega
theorem zA (l:List Ch):(aZ l).w.length+(aZ l).n.length=l.length:=by
 cases l with
 | nil=>rfl
 | cons c l=>
  have hof:aZ (c::l)=bif c.2.2 then ⟨(c::l).map (·.1),bm, []⟩ else ⟨[],c.2.1,(c::l).map (·.1)⟩:=rfl
  rw [hof]
  cases c.2.2<;>simp
end
--PkM
section
open Go.RowKit
set_option maxRecDepth 100000

theorem o4 (x:Ch):∀(l:List Ch) (c:Int),kF c (l++ [x])=IntKind.wrap .i64 (kF c l+(x.2.1.p.length:Int))
 | [],c=>rfl
 | a::l,c=>o4 x l _
theorem yy (c:Int) (x:Ch) (l:List Ch):fL c (x::l)=bif decide (IntKind.wrap .i64 (c+(x.2.1.p.length:Int))>3000) then false else fL (IntKind.wrap .i64 (c+(x.2.1.p.length:Int))) l:=rfl
theorem ID {cs:List Ch} (hl:cs.length≤60) (K:KX) (hK:bif fL 0 cs then K .normal (aj 27 sQ (mu (cs.map ag) .none (kF 0 cs) ((cs.map ag).length:Nat))) ⟨[], []⟩ [] else ∀(cc jj:Int) (oo:List VO),K .ret (aj 27 sQ (mu (cs.map ag) .none cc jj)) ⟨oo, []⟩ []):
    VWx Tryz.prog ae none 0 (am Tryz.prog nM 0) (aj 27 sQ (mu (cs.map ag) .none 0 0)) ⟨[], []⟩ [] K:=by
  have hlen:=bL cs
  refine bK (f:=nM) (id:=0) (by kernel_rfl) 27 sQ (fun j:Nat=>cs.length-j) (fun j:Nat=>mu (cs.map ag) .none (kF 0 (cs.take j)) (j:Int)) (fun _=>⟨[], []⟩) (fun j=>j≤cs.length∧fL (kF 0 (cs.take j)) (cs.drop j)=fL 0 cs) 0 0 (fun j _=>⟨Nat.le_refl _,Nat.le_refl _⟩)
    (fun e vs T=>(fL 0 cs=true∧T=⟨[], []⟩∧e= .normal∧vs=mu (cs.map ag) .none (kF 0 cs) ((cs.map ag).length:Nat))∨(fL 0 cs=false∧e= .ret∧∃(cc jj:Int) (oo:List VO),T=⟨oo, []⟩∧vs=mu (cs.map ag) .none cc jj)) (fun j ⟨hj,ht⟩=> ?_) 0 ⟨Nat.zero_le _,rfl⟩ K ?_
  rotate_left
  · rintro e vs T (⟨h1,rfl,rfl,rfl⟩ | ⟨h1,rfl,cc,jj,oo,rfl,rfl⟩)
    · rw [h1,cond_true] at hK;exact hK
    · rw [h1,cond_false] at hK;exact hK cc jj oo
  by_cases hlt:j<cs.length
  · have hr:=List.getElem?_eq_getElem hlt
    have hd:cs.drop j=cs[j]::cs.drop (j+1):=List.drop_eq_getElem_cons hlt
    generalize cs[j]=c at hr hd
    refine aI ac aa ai ah (DU (cs.map ag) .none c.1.1 c.1.2 (kF 0 (cs.take j)) c.2.1 c.2.2 j _) ?_
    rw [dv]
    rw [hd,yy] at ht
    refine aN (decide_eq_true (by rw [hlen];omega)) ⟨ng 12 14 rfl hr, ?_⟩
    refine aF (fun hb=> ?_) (fun hb=> ?_)
    · rw [hb,cond_true] at ht
      exact ⟨rfl,rfl, .inr ⟨ht.symm,rfl,_,_,_,rfl,rfl⟩⟩
    · rw [hb,cond_false] at ht
      rw [cf (by omega)]
      refine ⟨rfl,rfl,j+1,⟨hlt,by rw [bZ hr,o4];exact ht⟩,by show cs.length-(j+1)<cs.length-j;omega, .inr ⟨rfl, ?_⟩⟩
      show _=mu _ _ (kF 0 (cs.take (j+1))) _
      rw [bZ hr,o4]
      simp only [mu,av,TV.ren,aP,Tok.ren]
  · obtain rfl:j=cs.length:=by omega
    rw [List.take_length,List.drop_length] at ht
    refine aI ac aa ai ah (DU (cs.map ag) .none 0 0 (kF 0 (cs.take cs.length)) bm true cs.length _) (aH (decide_eq_false (by rw [hlen];omega)) ?_)
    refine ⟨rfl,rfl, .inl ⟨ht.symm,rfl,rfl, ?_⟩⟩
    rw [List.take_length]
    simp only [mu,hlen]
theorem L8 (cs:List Ch):VCx Tryz.prog ae 0 nM [.vec 8 (cs.map ag) .none, .val (.int .i64 60)] ⟨[], []⟩ fun x T' =>x= .val (.bool (ig cs))∧T' =⟨[], []⟩:=by
  have hlen:=bL cs
  unfold ig
  by_cases hl:cs.length≤60
  · rw [decide_eq_false (show ¬((cs.length:Int)>60) by omega),cond_false]
    refine VCx.keepQ 0 0 (Nat.le_refl _) (Nat.le_refl _) (ak ac aa ai (aL fun p hp=> ?_) (NK (cs.map ag) .none (kF 0 cs) (fL 0 cs) _) (aH (decide_eq_false (by rw [hlen];omega)) ⟨rfl,⟨rfl,rfl,rfl,trivial,rfl,rfl,rfl⟩, ?_⟩))
    · obtain rfl:=List.mem_singleton.1 hp
      exact aS (ID hl)
    · cases fL 0 cs with
      | true=>exact ⟨rfl,rfl⟩
      | false=>exact fun cc jj oo=>⟨rfl,rfl⟩
  · rw [decide_eq_true (show ((cs.length:Int)>60) by omega),cond_true]
    exact VCx.keepQ 0 0 (Nat.le_refl _) (Nat.le_refl _) (ak ac aa ai (D5 _) (LE (cs.map ag) .none _) (aN (decide_eq_true (by rw [hlen];omega)) ⟨rfl,rfl⟩))
theorem L9 (b:Bool):∀ro ys T K,Lu b ro ys T K→VCx Tryz.prog ae ro lx ys T K:=by
 intro ro ys T K h
 unfold Lu at h
 split at h
 ·obtain ⟨⟨rfl,cs,ds,rfl,rfl,hc,hd,rfl⟩,hk⟩:=h
  exact VCx.loosePure ap (L7 hc hd) (by simp [cB]) (by simp only [av,TV.ren,aP,Tok.ren]) (fun _ _=>rfl) hk
 ·exact h.elim
theorem Ma (b:Bool):∀ro ys T K,Oa b ro ys T K→VCx Tryz.prog ae ro Ln ys T K:=by
 intro ro ys T K h
 unfold Oa at h
 split at h
 ·obtain ⟨⟨cs,ds,rfl,rfl,hc,hd,rfl⟩,hk⟩:=h
  have hv:VCx Tryz.prog ae 0 Ln [.vec 8 (cs.map ag) .none, .vec 8 (ds.map ag) .none] ⟨[], []⟩ fun x T' =>x= .val (.bool (decide (cs=ds)))∧T' =⟨[], []⟩:=by
   refine VCx.keepQ 0 0 (Nat.le_refl _) (Nat.le_refl _) (ak ac aa (aE fun p hp=> ?_) ah (NG (cs.map ag) (ds.map ag) .none .none (decide (cs=ds)) _) ⟨⟨rfl,cs,ds,rfl,rfl,hc,hd,rfl⟩,rfl,rfl⟩)
   obtain rfl:=List.mem_singleton.1 hp;exact L9 _
  exact VCx.loosePure ap hv (by simp [cB]) (by simp only [av,TV.ren,aP,Tok.ren]) (fun _ _=>rfl) hk
 ·exact h.elim
def vj:List Ch:= [((16777216,8),⟨0, [],9,0,false⟩,false),((33554432,8),⟨0, [],9,0,false⟩,false)]
theorem Bt {l:List Px} (h:l.Pairwise cU):gz l=l:=
 sC (xG (h.imp fun {a b} h e=>by subst e;exact cI _ h)) h fun x=>(List.mergeSort_perm l _).mem_iff
theorem IE:bQ vj= [⟨[],⟨0, [],9,0,false⟩, [(16777216,8),(33554432,8)]⟩]:=by
 have ho:bt vj=vj:=by
  have hk:fK vj= [(16777216,8),(33554432,8)]:=by decide+kernel
  unfold bt
  rw [hk,Bt (by decide)]
  decide+kernel
 unfold bQ
 rw [ho]
 decide+kernel
theorem Mb:VCx Tryz.prog ae 0 N9 [] ⟨[], []⟩ fun x T' =>x= .val (.bool true)∧T' =⟨[], []⟩:=by
 refine VCx.keepQ 0 0 (Nat.le_refl _) (Nat.le_refl _) (ak ac aa (aE fun p hp=>by obtain rfl:=List.mem_singleton.1 hp;exact L1 _) ah (NL [] ⟨0, [],9,0,false⟩ (cj (16777216,8)) (cj (33554432,8)) _) ⟨⟨vj,fun tok=> ?_,⟨by decide,fun c hc=> ?_⟩,by rw [IE];rfl⟩,rfl,rfl⟩)
 ·intro g w u hu
  refine TVle.vecMem (f:=fun c:Ch=> [.val (.int .u32 c.1.1), .val (.int .i64 c.1.2), .val (.int .i64 0), .val (.slice none 0 0), .val (.int .u32 9), .val (.int .i64 0), .val (.bool false), .val (.bool false)]) (g:=ag) (l:=vj) (fun c hc=> ?_) g w u (eQ hu)
  simp only [vj,List.mem_cons,List.not_mem_nil,or_false] at hc
  rcases hc with rfl | rfl<;>exact ⟨.refl _, .refl _, .refl _, .nil 1, .refl _, .refl _, .refl _, .refl _,trivial⟩
 ·simp only [vj,List.mem_cons,List.not_mem_nil,or_false] at hc
  rcases hc with rfl | rfl<;>exact ⟨Nat.zero_le _,by decide,by decide⟩
theorem D8 {cs us:List Ch} (h:CsOk cs) (hp:us.Perm cs):CsOk us:=⟨by rw [hp.length_eq];exact h.few,fun c hc=>h.at' c (hp.mem_iff.1 hc)⟩
theorem D9 {l:List Ch} (h:CsOk l):∀u∈bR l,ib u:=by
 intro u hu
 obtain ⟨c,hc,rfl⟩:=List.mem_map.1 hu
 exact DW (h.sub (sW hc) fun x hx=>sV hc hx)
theorem xH:∀(n:Nat) (l:List Ch),l.length≤n→CsOk l→(∀u∈cW l,ib u)∧(cW l).length≤l.length
 | _, [],_,_=>by unfold cW;rw [fN];exact ⟨fun u h=>(by cases h),Nat.le_refl _⟩
 | 0,c::l,h,_=>by simp at h
 | n+1,c::l,h,hc=>by
  obtain ⟨h3,h4⟩:=kG c l (fun x=>decide (x.2.1=c.2.1)) (by simp)
  have ih:=xH n ((c::l).filter fun x=> !decide (x.2.1=c.2.1)) (by simp only [List.length_cons] at h;omega) (hc.filter _)
  have hu:=nj ((c::l).filter fun x=>decide (x.2.1=c.2.1))
  rw [jD]
  refine ⟨fun u hu=> ?_,by rw [List.length_append];omega⟩
  rcases List.mem_append.1 hu with hu | hu
  ·exact D9 (hc.filter _) u hu
  ·exact ih.1 u hu
theorem IF {cs:List Ch} (h:CsOk cs):(∀u∈bQ cs,ib u)∧(bQ cs).length≤50000:=by
  have ho:=tX h
  have h1:=D9 (ho.filter fun c=>c.2.2)
  have h2:=xH _ _ (Nat.le_refl _) (ho.filter fun c=> !c.2.2)
  have h3:=nj ((bt cs).filter fun c=>c.2.2)
  have h4:=(lQ (fun c=>c.2.2) (bt cs)).length_eq
  have h5:=ho.few
  rw [rc]
  refine ⟨fun u hu=> ?_, ?_⟩
  · rcases List.mem_append.1 hu with hu | hu
    · exact h1 u hu
    · exact h2.1 u hu
  · rw [List.length_append] at h4 ⊢
    omega
def Mc (c:Ch):Prop:=c.2.1.p.length≤9223372036854775807∧0≤c.2.1.h∧c.2.1.h<4294967296
end
--PkN
section
open Go.RowKit Go.Deep Go.WideShapes Go.ChangeAt

theorem Bu {α:Type} (f:α→List TV) (Q:α→Prop):∀(l:List (List TV)),(∀e∈l,∃a,e=f a∧Q a)→∃al:List α,l=al.map f∧∀a∈al,Q a
 | [],_=>⟨[],rfl,fun _ h=>by cases h⟩
 | e::l,h=>by
  obtain ⟨a,rfl,ha⟩:=h _ List.mem_cons_self
  obtain ⟨al,rfl,hs⟩:=Bu f Q l fun e he=>h e (List.mem_cons_of_mem _ he)
  exact ⟨a::al,rfl,fun b hb=>by
   rcases List.mem_cons.1 hb with rfl | hb
   ·exact ha
   ·exact hs b hb⟩
theorem GH {z:Int} (h:(Lit.int .u32 z).wf=true):0≤z∧z<4294967296:=by
 simp [Lit.wf] at h
 have e0:IntKind.u32.min=0:=by decide
 have e1:IntKind.u32.max=4294967295:=by decide
 omega
theorem IG {l:List (List TV)} (h:∀e∈l,dR [.int .i64] e):∃ps,l=iV ps:=by
 obtain ⟨ps,h1,_⟩:=Bu iT (fun _=>True) l fun e he=>by
  obtain ⟨x,r,rfl,h1,h2⟩:=c7 (h e he)
  obtain rfl:=uL h2
  obtain ⟨a,rfl,_⟩:=fH h1
  exact ⟨a,rfl,trivial⟩
 exact ⟨ps,h1⟩
def FT:List SH:= [.int .u32, .int .i64, .int .i64, .slice [.int .i64], .int .u32, .int .i64, .bool, .bool]
theorem Md {xs:List TV} (h:dR FT xs):∃t:Ch,xs=ag t∧Mc t:=by
 obtain ⟨x1,r1,rfl,h1,g1⟩:=c7 h
 obtain ⟨x2,r2,rfl,h2,g2⟩:=c7 g1
 obtain ⟨x3,r3,rfl,h3,g3⟩:=c7 g2
 obtain ⟨x4,r4,rfl,h4,g4⟩:=c7 g3
 obtain ⟨x5,r5,rfl,h5,g5⟩:=c7 g4
 obtain ⟨x6,r6,rfl,h6,g6⟩:=c7 g5
 obtain ⟨x7,r7,rfl,h7,g7⟩:=c7 g6
 obtain ⟨x8,r8,rfl,h8,g8⟩:=c7 g7
 obtain rfl:=uL g8
 obtain ⟨a,rfl,_⟩:=fH h1
 obtain ⟨n,rfl,_⟩:=fH h2
 obtain ⟨o,rfl,_⟩:=fH h3
 obtain ⟨p,rfl,lp,hp⟩:=sj h4
 obtain ⟨j,rfl,wj⟩:=fH h5
 obtain ⟨m,rfl,_⟩:=fH h6
 obtain ⟨hm,rfl⟩:=uM h7
 obtain ⟨g,rfl⟩:=uM h8
 obtain ⟨p,rfl⟩:=IG hp
 have e:(iV p).length=p.length:=List.length_map _
 rw [e] at lp
 exact ⟨((a,n),⟨o,p,j,m,hm⟩,g),rfl,Nat.le_trans lp (by unfold maxLen;decide),GH wj⟩
end

end Go.Proofs.YtnfplefcghadfaaGreat