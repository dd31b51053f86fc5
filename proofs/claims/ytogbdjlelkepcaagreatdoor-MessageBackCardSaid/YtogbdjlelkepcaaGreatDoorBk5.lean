/-Part 5 of the proof of messageBackCard_holds:MsSa,MsPt,MsPq ... No condition. -/
import Derived.Deep.Slices
import Derived.ProofKit
import Derived.OpenShut
import Derived.Lib.SmallJoins
import Derived.Lib.LaidTab
import Derived.LaidHandle
import Derived.ChangeVars
import Derived.JoinedOf
import Derived.Stop.Joined
import Derived.Test.YtogbdjlelkepcaaGreatDoorBk1
import Derived.Test.YtogbdjlelkepcaaGreatDoorBk2
import Derived.Test.YtogbdjlelkepcaaGreatDoorBk3
import Derived.Test.YtogbdjlelkepcaaGreatDoorBk4
set_option maxRecDepth 100000
namespace Go.Proofs.YtogbdjlelkepcaaGreatDoor
section
open Go.RowKit

def kw (z:Int):Bool:=av BinOp.neq (aP (Value.int IntKind.i64 (IntKind.wrap IntKind.i64 (BitVec.toNat (BitVec.ofInt (IntKind.bits IntKind.i64) z&&&BitVec.ofInt (IntKind.bits IntKind.i64) (16:Int)):Nat))) (Value.int IntKind.i64 (0:Int)))
def fN (b:Bs):Int:=aL 1 b 0
def ql (b:Bs):Nat:=bif kw (fN b) then 2 else 1
def iY (b:Bs):Int:=aL 1 (aA 1 b 0) (aB 1 b 0)
def oA (b:Bs):Bs:=aA 1 (aA 1 b 0) (aB 1 b 0)
def rD (b:Bs):Int:=aB 1 (aA 1 b 0) (aB 1 b 0)
def vH (b:Bs):Int:=aL (ql b) (oA b) (rD b)
def pU (b:Bs):Bs:=aA (ql b) (oA b) (rD b)
def t5 (b:Bs):Int:=aB (ql b) (oA b) (rD b)
def gE (b:Bs):Bs:=bR (vH b) (pU b) (t5 b)
def jW (b:Bs):Bs:=aA (vH b) (pU b) (t5 b)
def rE (b:Bs):Int:=aB (vH b) (pU b) (t5 b)
abbrev ib:=Int × Int × Bs
def fc:Nat→Bs→List ib→Option (List ib)
 | 0,_,_=>none
 | k+1,b,acc=>bif decide (bp b 0>0) then (bif decide (rE b=0) then fc k (jW b) (acc++ [(fN b,iY b,gE b)]) else none) else some acc
def qm (b:Bs):Option (List ib):=fc (b.length+1) b []
def fv (p:ib):List TV:= [.val (.int .i64 p.1), .val (.int .i64 p.2.1), .vec 1 p.2.2 .none]
def gg (b:Bs):List ib:=(qm b).getD []
def ed (b:Bs):Bs:=(gg b).map fv
def jm (b:Bs):Bool:=(qm b).isSome
def tj (b:Bs):TV:= .tup [.vec 3 (ed b) .none, .agg [.val (.int .i64 (bif jm b then 0 else 3)), .val (.int .i64 (bif jm b then 0 else 1)), .vec 1 [] .none]]
def All3 (l:List ib):Prop:=∀p∈l,IsB p.2.2
theorem All3.nil:All3 []:=fun p hp=>by simp at hp
theorem All3.snoc {l:List ib} (h:All3 l) {c t:Int} {v:Bs} (hv:IsB v):All3 (l++ [(c,t,v)]):=fun p hp=>by
 rcases List.mem_append.1 hp with h1 | h1
 ·exact h p h1
 ·obtain rfl:=List.mem_singleton.1 h1;exact hv
theorem pV (f g:Nat→Option Nat):∀{l:List ib},All3 l→bg f g (l.map fv)=l.map fv
 | [],_=>rfl
 | a::l,h=>by
  have h1:=pV f g (l:=l) fun p hp=>h p (List.mem_cons_of_mem _ hp)
  have h2:=(h a List.mem_cons_self).ren f g
  simp only [List.map_cons,bg,h1,fv,ar,TV.ren,h2,Tok.ren]
theorem vI {b:Bs} (h:IsB b):IsB (gE b):=gC (aF (aF (aF h)))
theorem GD {b:Bs} (h:IsB b):IsB (jW b):=aF (aF (aF (aF h)))
theorem vJ {b:Bs} (h:bp b 0>0):(jW b).length<b.length:=by
 have h1:=wX h
 have h2:=lD (n:=1) (b:=aA 1 b 0) (e:=aB 1 b 0)
 have h3:=lD (n:=ql b) (b:=oA b) (e:=rD b)
 have h4:=lD (n:=vH b) (b:=pU b) (e:=t5 b)
 unfold jW
 unfold oA at h3
 unfold pU oA at h4
 unfold pU oA
 omega
theorem yi:∀(k j:Nat) (b:Bs) (acc:List ib),b.length<k→b.length<j→fc k b acc=fc j b acc
 | 0,_,_,_,h,_=>absurd h (Nat.not_lt_zero _)
 | _,0,_,_,_,h=>absurd h (Nat.not_lt_zero _)
 | k+1,j+1,b,acc,h1,h2=>by
  unfold fc
  by_cases hl:bp b 0>0
  ·have:=vJ hl
   rw [decide_eq_true hl,yi k j (jW b) _ (by omega) (by omega)]
  ·rw [decide_eq_false hl];rfl
theorem yj {b:Bs} {acc:List ib} (hl:bp b 0>0) (hz:rE b=0):fc (b.length+1) b acc=fc ((jW b).length+1) (jW b) (acc++ [(fN b,iY b,gE b)]):=by
 have:=vJ hl
 rw [yi ((jW b).length+1) b.length (jW b) _ (by omega) (by omega)]
 simp only [fc,decide_eq_true hl,decide_eq_true hz,cond_true]
theorem AS {b:Bs} {acc:List ib} (hl:bp b 0>0) (hz:¬rE b=0):fc (b.length+1) b acc=none:=by
 simp only [fc,decide_eq_true hl,decide_eq_false hz,cond_true,cond_false]
theorem JV {b:Bs} {acc:List ib} (hl:¬bp b 0>0):fc (b.length+1) b acc=some acc:=by
 simp only [fc,decide_eq_false hl,cond_false]
theorem CU:∀(k:Nat) (b:Bs) (acc:List ib),IsB b→All3 acc→∀l,fc k b acc=some l→All3 l
 | 0,_,_,_,_,l,h=>by cases h
 | k+1,b,acc,hb,ha,l,h=>by
  unfold fc at h
  cases h1:decide (bp b 0>0)<;>rw [h1] at h
  ·injection h with h;subst h;exact ha
  ·cases h2:decide (rE b=0)<;>rw [h2] at h
   ·cases h
   ·exact CU k _ _ (GD hb) (ha.snoc (vI hb)) l h
theorem PF {b:Bs} (hb:IsB b):All3 (gg b):=by
 unfold gg
 cases h:qm b with
 | none=>exact .nil
 | some l=>exact CU _ _ _ hb .nil l h
theorem GE {b:Bs} {k:Nat} (hk:ql b=k) {z ez z2 e2 z3 e3 e4:Int} {bz b2 b3 v b4:Bs} (h1:z=aL (1:Nat) b 0∧bz=aA (1:Nat) b 0∧ez=aB (1:Nat) b 0) (h2:z2=aL (1:Nat) bz ez∧b2=aA (1:Nat) bz ez∧e2=aB (1:Nat) bz ez) (h3:z3=aL k b2 e2∧b3=aA k b2 e2∧e3=aB k b2 e2) (h4:v=bR z3 b3 e3∧b4=aA z3 b3 e3∧e4=aB z3 b3 e3):
  z=fN b∧z2=iY b∧v=gE b∧b4=jW b∧e4=rE b:=by
 obtain ⟨rfl,rfl,rfl⟩:=h1
 obtain ⟨rfl,rfl,rfl⟩:=h2
 subst hk
 obtain ⟨rfl,rfl,rfl⟩:=h3
 obtain ⟨rfl,rfl,rfl⟩:=h4
 exact ⟨rfl,rfl,rfl,rfl,rfl⟩
theorem AT:∃inf:TypeInfo,Tryz.prog.info? 204=some inf∧inf.size=3∧inf.bytes+1≤1000∧inf.zero=some (.agg #[.int .i64 0, .int .i64 0, .slice none 0 0]):=
 ⟨(Tryz.prog.info? 204).getD default,by kernel_rfl,by kernel_rfl,Nat.le_of_ble_eq_true (by kernel_rfl),by kernel_rfl⟩
theorem AU {ro:Nat} {T T1:VT} {s x:Operand} {l:List (Nat × TV)} {es es2:List (List TV)} {k n:Nat} {bn:Bool} (hs:cZ T 3 (aS ae l s)=some (es,k,n,bn,T1)) (hx:gY 3 (aS ae l x)=some es2) (hb:es.length+es2.length≤2000001):
    ba Tryz.prog ae ro T (.call ⟨.builtin .append, #[s,x], #[199,199]⟩) l (.vec 3 (es++es2) (.tail k (n+es2.length))) {T1 with tails:=T1.tails.set k (n+es2.length,3,bn)}:=by
  obtain ⟨inf,i1,i2,i3,i4⟩:=AT
  have h:=gj (inf:=inf) (P:=Tryz.prog) (G:=ae) (ro:=ro) (T:=T) (T1:=T1) (t:=199) (tx:=199) (s:=s) (x:=x) (l:=l) (es:=es) (es2:=es2) (k:=k) (n:=n) (bn:=bn) Tryz.underlying199 i1 i4 (by rw [i2];rfl) (by rw [i2];decide) (by kernel_rfl) (by rw [i2];exact hs) (by rw [i2];exact hx)
    (by have h1:=i3
        have h2:=Nat.mul_le_mul hb h1
        omega)
  rw [i2] at h
  exact h
def GF (N:Nat) (O:Bs→Int→Int→VO) (b0:Bs) (ex:Exit) (vs:List TV) (T:VT):Prop:=
 (∃(l:List ib) (bz:Bs) (az ez:Int),qm b0=some l∧ex= .normal∧vs=o8 (l.map fv)∧T=⟨[z7,O bz az ez], [(l.length,3,true)]⟩)∨
 (∃(rest:List VO) (tlz:CT) (Lz:Bs),qm b0=none∧ex= .ret∧vs=o8 Lz∧T=⟨f7 1::rest,tlz⟩)
theorem GG {N:Nat} {O:Bs→Int→Int→VO} {b0:Bs} {K:KX} (hK:KW N O (ed b0) (jm b0) K) {ex:Exit} {vs:List TV} {T:VT} (h:GF N O b0 ex vs T):K ex (aR N yh vs) T []:=by
 unfold KW at hK
 rcases h with ⟨l,bz,az,ez,h1,rfl,rfl,rfl⟩ | ⟨rest,tlz,Lz,h1,rfl,rfl,rfl⟩
 ·simp only [jm,h1,Option.isSome_some,cond_true,ed,gg,Option.getD_some,List.length_map] at hK
  exact hK bz az ez
 ·simp only [jm,h1,Option.isSome_none,cond_false] at hK
  exact hK rest tlz Lz
theorem JW {b0:Bs} (h0:IsB b0) (K:KX) (hK:KW 41 aE (ed b0) (jm b0) K):VWx Tryz.prog ae none 0 (aH Tryz.prog rC 0) (aR 41 yh (o8 [])) ⟨[z7,aE b0 0 0], [(0,3,true)]⟩ [] K:=by
  let sl:Bs × Int × List ib→List TV:=fun s=>o8 (s.2.2.map fv)
  let TT:Bs × Int × List ib→VT:=fun s=>⟨[z7,aE s.1 s.2.1 0], [(s.2.2.length,3,true)]⟩
  refine dS (f:=rC) (id:=0) (by kernel_rfl) 41 yh (fun s:Bs × Int × List ib=>s.1.length) sl TT (fun s=>IsB s.1∧All3 s.2.2∧s.2.2.length+s.1.length≤b0.length∧fc (s.1.length+1) s.1 s.2.2=qm b0) 2 1 (fun _ _=>⟨Nat.le_refl _,Nat.le_refl _⟩)
    (GF 41 aE b0) (fun s hs=> ?_) ⟨b0,0, []⟩ ⟨h0, .nil,by simp,rfl⟩ K (fun ex vs T h=>GG hK h)
  obtain ⟨b,a,acc⟩:=s
  obtain ⟨hrem,ha,hlen,hgo⟩:=hs
  have hsm:=h0.small
  simp only at hrem ha hlen hgo
  have hS:aZ Tryz.prog ae (aC [(jA,lS),(gU,kE .i64 1),(lr,kE .i64 2),(jd,ye),(iu,kC)]):=aJ fun p hp=>by
    rcases List.mem_cons.1 hp with rfl | hp;exact nc
    rcases List.mem_cons.1 hp with rfl | hp;exact fun ro ys T K h=>oZ _ _ _ _ (lE h)
    rcases List.mem_cons.1 hp with rfl | hp;exact fun ro ys T K h=>sL _ _ _ _ (lE h)
    rcases List.mem_cons.1 hp with rfl | hp;exact fun ro ys T K h=>rq _ _ _ _ (AM h)
    obtain rfl:=List.mem_singleton.1 hp;exact o5
  have hv:=PE b (acc.map fv) (fv (fN b,iY b,gE b)) a
  rw [List.length_map] at hv
  refine b7 ac aa hS ah (hv _) ?_
  refine ⟨⟨rfl,hrem⟩, ?_⟩
  by_cases hl:bp b 0>0
  · have hlt:=vJ hl
    refine aQ (decide_eq_true hl) ⟨⟨rfl,hrem⟩, ?_⟩
    intro z bz az ez hq1
    have hbz:IsB bz:=by rw [hq1.2.1];exact aF hrem
    refine ⟨⟨rfl,hbz⟩, ?_⟩
    intro z2 b2 a2 e2 hq2
    have hb2:IsB b2:=by rw [hq2.2.1];exact aF hbz
    have hzc:z=fN b:=hq1.1
    refine am (fun hx=> ?_) (fun hx=> ?_)
    · rw [hzc] at hx
      have hk:ql b=2:=by unfold ql;rw [show kw (fN b)=true from hx];rfl
      refine ⟨⟨rfl,hb2⟩, ?_⟩
      intro z3 b3 a3 e3 hq3
      have hb3:IsB b3:=by rw [hq3.2.1];exact aF hb2
      refine ⟨⟨rfl,hb3⟩, ?_⟩
      intro v b4 a4 e4 hq4
      have hb4:IsB b4:=by rw [hq4.2.1];exact aF hb3
      obtain ⟨rfl,rfl,rfl,rfl,rfl⟩:=GE hk hq1 hq2 hq3 hq4
      refine ⟨⟨rfl,hb4⟩, ?_⟩
      by_cases hz:rE b=0
      · have ha2:All3 (acc++ [(fN b,iY b,gE b)]):=ha.snoc (vI hrem)
        have e1:(acc++ [(fN b,iY b,gE b)]).map fv=acc.map fv++ [fv (fN b,iY b,gE b)]:=by rw [List.map_append];rfl
        rw [hz]
        refine aM (by rw [dy];rfl) ⟨?_,rfl,rfl,⟨jW b,a4,acc++ [(fN b,iY b,gE b)]⟩,⟨hb4,ha2,by simp only [List.length_append,List.length_cons,List.length_nil];omega,by rw [←hgo];exact (yj hl hz).symm⟩,hlt, .inr ⟨?_, ?_⟩⟩
        · have h:=AU (ro:=0) (T:=⟨[z7,aE (jW b) a4 0, .cells (fv (fN b,iY b,gE b))], [(acc.length,3,true)]⟩) (T1:=⟨[z7,aE (jW b) a4 0, .cells (fv (fN b,iY b,gE b))], [(acc.length,3,true)]⟩) (s:= .tmp 35) (x:= .tmp 37) (l:= [(35, .vec 3 (acc.map fv) (.tail 0 acc.length)),(37, .vec 3 [fv (fN b,iY b,gE b)] .full)]) (es:=acc.map fv) (es2:= [fv (fN b,iY b,gE b)]) (k:=0) (n:=acc.length) (bn:=true)
            (by simp [aS,ea,cZ]) rfl (by simp only [List.length_map,List.length_cons,List.length_nil];omega)
          exact h
        · refine (show VT.keep ⟨z7::aE (jW b) a4 0::_,_⟩ 2 1=_ from ?_)
          simp only [VT.keep,List.take_succ_cons,List.take_zero,List.map_cons,List.map_nil,bC hb4]
          simp only [TT,List.length_append,List.length_cons,List.length_nil]
          rfl
        · have e2:=pV (aw 2) (aw 1) ha2
          rw [e1] at e2
          simp only [ar,TV.ren,e2,Tok.ren]
          simp only [sl,o8,e1,List.length_append,List.length_map,List.length_cons,List.length_nil]
          rfl
      · refine aQ (by rw [dy];exact congrArg Bool.not (decide_eq_false hz)) ⟨rfl,rfl, .inr ⟨_,_,acc.map fv,by rw [←hgo];exact AS hl hz,rfl,by simp only [o8,List.length_map],rfl⟩⟩
    · rw [hzc] at hx
      have hk:ql b=1:=by unfold ql;rw [show kw (fN b)=false from hx];rfl
      refine ⟨⟨rfl,hb2⟩, ?_⟩
      intro z3 b3 a3 e3 hq3
      have hb3:IsB b3:=by rw [hq3.2.1];exact aF hb2
      refine ⟨⟨rfl,hb3⟩, ?_⟩
      intro v b4 a4 e4 hq4
      have hb4:IsB b4:=by rw [hq4.2.1];exact aF hb3
      obtain ⟨rfl,rfl,rfl,rfl,rfl⟩:=GE hk hq1 hq2 hq3 hq4
      refine ⟨⟨rfl,hb4⟩, ?_⟩
      by_cases hz:rE b=0
      · have ha2:All3 (acc++ [(fN b,iY b,gE b)]):=ha.snoc (vI hrem)
        have e1:(acc++ [(fN b,iY b,gE b)]).map fv=acc.map fv++ [fv (fN b,iY b,gE b)]:=by rw [List.map_append];rfl
        rw [hz]
        refine aM (by rw [dy];rfl) ⟨?_,rfl,rfl,⟨jW b,a4,acc++ [(fN b,iY b,gE b)]⟩,⟨hb4,ha2,by simp only [List.length_append,List.length_cons,List.length_nil];omega,by rw [←hgo];exact (yj hl hz).symm⟩,hlt, .inr ⟨?_, ?_⟩⟩
        · have h:=AU (ro:=0) (T:=⟨[z7,aE (jW b) a4 0, .cells (fv (fN b,iY b,gE b))], [(acc.length,3,true)]⟩) (T1:=⟨[z7,aE (jW b) a4 0, .cells (fv (fN b,iY b,gE b))], [(acc.length,3,true)]⟩) (s:= .tmp 35) (x:= .tmp 37) (l:= [(35, .vec 3 (acc.map fv) (.tail 0 acc.length)),(37, .vec 3 [fv (fN b,iY b,gE b)] .full)]) (es:=acc.map fv) (es2:= [fv (fN b,iY b,gE b)]) (k:=0) (n:=acc.length) (bn:=true)
            (by simp [aS,ea,cZ]) rfl (by simp only [List.length_map,List.length_cons,List.length_nil];omega)
          exact h
        · refine (show VT.keep ⟨z7::aE (jW b) a4 0::_,_⟩ 2 1=_ from ?_)
          simp only [VT.keep,List.take_succ_cons,List.take_zero,List.map_cons,List.map_nil,bC hb4]
          simp only [TT,List.length_append,List.length_cons,List.length_nil]
          rfl
        · have e2:=pV (aw 2) (aw 1) ha2
          rw [e1] at e2
          simp only [ar,TV.ren,e2,Tok.ren]
          simp only [sl,o8,e1,List.length_append,List.length_map,List.length_cons,List.length_nil]
          rfl
      · refine aQ (by rw [dy];exact congrArg Bool.not (decide_eq_false hz)) ⟨rfl,rfl, .inr ⟨_,_,acc.map fv,by rw [←hgo];exact AS hl hz,rfl,by simp only [o8,List.length_map],rfl⟩⟩
  · exact aM (decide_eq_false hl) ⟨rfl,rfl, .inl ⟨acc,b,a,0,by rw [←hgo];exact JV hl,rfl,by simp only [o8,List.length_map],rfl⟩⟩
theorem MV {b:Bs} (h:IsB b):dD Tryz.prog ae (T6 41 aE b (ed b) (jm b) (aH Tryz.prog rC 0)):=bL fun p hp=>by
 obtain rfl:=List.mem_singleton.1 hp
 exact cA fun K hK=>JW h K hK
theorem PG {b:Bs} (h:jm b=false):TVle (.tup [.val (.slice none 0 0), .agg [.val (.int .i64 3), .val (.int .i64 1), .val (.slice none 0 0)]]) (tj b):=by
 have hl:ed b= []:=by
  unfold ed gg
  unfold jm at h
  cases hc:qm b with
  | none=>rfl
  | some l=>rw [hc] at h;cases h
 unfold tj
 rw [h,hl]
 exact .tup ⟨.nil 3, .agg ⟨.refl _, .refl _, .nil 1,trivial⟩,trivial⟩
theorem MW {b:Bs} (h:jm b=true) (tok:Tok):TVle (.tup [.vec 3 (ed b) tok, .agg [.val (.int .i64 0), .val (.int .i64 0), .val (.slice none 0 0)]]) (tj b):=by
 unfold tj
 rw [h]
 exact .tup ⟨.vec 3 _ _, .agg ⟨.refl _, .refl _, .nil 1,trivial⟩,trivial⟩
theorem wZ {b:Bs} (hb:IsB b) (f g:Nat→Option Nat):bg f g (ed b)=ed b:=pV f g (PF hb)
theorem PH {b:Bs} (hb:IsB b):VCx Tryz.prog ae 0 rC [.vec 1 b .none] ⟨[], []⟩ fun x T' =>x=tj b∧T' =⟨[], []⟩:=by
 refine VCx.toLe (Q:=fun T' =>T' =⟨[], []⟩) (VCx.keepQ 0 0 (Nat.le_refl _) (Nat.le_refl _) (ai ac aa (aJ fun p hp=>by obtain rfl:=List.mem_singleton.1 hp;exact mE) (MV hb) (SR b (ed b) (jm b) _) ?_))
 refine ⟨hb,rfl,⟨rfl,rfl,rfl,⟨rfl,trivial⟩,rfl,rfl,rfl⟩, ?_⟩
 cases h:jm b
 ·exact fun rest tlz Lz=>⟨PG h,rfl⟩
 ·refine fun bz az ez=>⟨?_,rfl⟩
  simp only [TV.ren,ar,wZ hb]
  exact MW h _
end
section
open Go.RowKit

abbrev jn:=160
abbrev GH:=178
abbrev vK:=184
def iT (z:Int):List TV:= [.val (.int .i64 z)]
def iV (l:List Int):Bs:=l.map iT
def CV:List Nat:= [0,1,4,6,7,8]
def yk (L:Bs) (v r j:Int):List TV:= [.vec 1 L .none, .val (.int .i64 v), .val (.int .i64 r), .vec 1 L .none, .val (.int .i64 L.length), .val (.int .i64 j)]
def T7 (L:Bs) (v r j:Int) (hit:Bool) (c0:Code):Nat→Option (b6 × Code):=cJ [(0,eU 19 CV [] (yk L v 0 0) ⟨[], []⟩ fun K=>bif hit then K .ret (aR 19 CV (yk L v r j)) ⟨[], []⟩ [] else K .normal (aR 19 CV (yk L v 0 L.length)) ⟨[], []⟩ [],c0)]
def has0 (L:Bs):Bool:=L.any fun r=>decide (eJ r=0)
def T8 (L:Bs):Prop:=∃l:List Int,L=iV l∧l.length≤1000
def KY:aV:=fun _ ys T K=>match ys with
 | [.vec 1 L _, .val (.int .i64 0)]=>T8 L∧K (.val (.bool (has0 L))) T
 | _=>False
def yl:List Nat:= [2,3,4,5]
def ym (L:Bs):List TV:= [.val (.slice none 0 0), .val (.bool false), .ptr 0 0, .vec 1 L (.tail 0 L.length)]
def t6:List Nat:= [2,3,4,5,35,36]
def yn (L:Bs) (n j:Int):List TV:= [.val (.slice none 0 0), .val (.bool false), .ptr 0 0, .vec 1 L (.tail 0 L.length), .val (.int .i64 n), .val (.int .i64 j)]
def PI (b b' L L' :Bs) (a e a' e' n:Int) (c0:Code):Nat→Option (b6 × Code):=cJ [(2,eU 55 t6 [] (yn L n 0) ⟨[aE b a e], [(L.length,1,true)]⟩ (fun K=>K .normal (aR 55 t6 (yn L' n n)) ⟨[aE b' a' e'], [(L'.length,1,true)]⟩ []),c0)]
def PJ (P:Bs→Int→Prop) (N:Prop) (K:KX):Prop:=(∀(L bz:Bs) (az ez:Int),(IsB bz∧P L ez)→K .normal (aR 55 yl (ym L)) ⟨[aE bz az ez], [(L.length,1,true)]⟩ [])∧(∀(rest:List VO) (tlz:List (Nat × Nat × Bool)) (Lz:Bs),N→K .ret (aR 55 yl (ym Lz)) ⟨rest,tlz⟩ [])
def T9 (b:Bs) (P:Bs→Int→Prop) (N:Prop) (c0:Code):Nat→Option (b6 × Code):=cJ [(0,eU 55 yl [(5,1)] (ym []) ⟨[aE b 0 0], [(0,1,true)]⟩ (PJ P N),c0)]
theorem ST (L:Bs) (v r j:Int) (hit:Bool) (Q:TV→VT→Prop):au Tryz.prog ae br aT 300 (T7 L v r j hit (aH Tryz.prog vK 0)) 0 vK [.vec 1 L .none, .val (.int .i64 v)] aG Q=
 ((aH Tryz.prog vK (0:Nat)=aH Tryz.prog vK (0:Nat))∧
 (((@Eq (Option Nat) .none .none)∧
 ((@Eq (Nat) 0 0)∧
 ((@Eq (List Nat) [] [])∧
 (True  ∧
 ((@Eq (VT) aG aG)∧
 ((@Eq (Bool) true true)∧
 (@Eq (List TV) [(aI L),(ak v),aD,(aI L),(ak (↑(List.length L):Int)),aD] [(aI L),(ak v),aD,(aI L),(ak (↑(List.length L):Int)),aD])))))))∧
 (bif hit
 then Q (ak r) aG
 else Q (ak (-1)) aG))):=by kernel_rfl
theorem GI (L:Bs) (v r z:Int) (j:Nat) (Q:Exit→List TV→VT→List Nat→Nat→Prop):vx Tryz.prog ae br (bc [(999998, .dead,none),(14, .elt (iT z),none)]) 300 aK none 0 (cI Tryz.prog vK 0) (aR 19 CV (yk L v r j)) aG [] (dm CV Q)=
 (bif decide ((↑j:Int)<(↑(List.length L):Int))
 then (bo Tryz.prog (fun _=> .none) (.indexAddr 59 (.tmp 12) (.tmp 13)) [(12,(aI L)),(13,(ak (↑j:Int)))] (.elt [(ak z)])∧
 (bif av BinOp.eql (k6 v z)
 then Q .ret (Jh L v (↑j:Int) L (↑(List.length L):Int) (↑j:Int)) aG [] 19
 else Q .normal (Jh L v r L (↑(List.length L):Int) (IntKind.wrap IntKind.i64 ((↑j:Int)+(1:Int)))) aG [] 19))
 else Q (.exit 0) (Jh L v r L (↑(List.length L):Int) (↑j:Int)) aG [] 19):=by kernel_rfl
theorem SU (L:Bs) (v r:Int) (Q:TV→VT→Prop):au Tryz.prog ae (aC [(vK,F9 [.vec 1 L .none, .val (.int .i64 v)] (ak r))]) aT 300 aK 0 GH [.vec 1 L .none, .val (.int .i64 v)] aG Q=
 ((@Eq (List TV) [(aI L),(ak v)] [(aI L),(ak v)])∧
 Q (nY (decide (r≥(0:Int)))) aG):=by kernel_rfl
theorem PL (b L:Bs) (a e n:Int) (j:Nat) (Q:Exit→List TV→VT→List Nat→Nat→Prop):vx Tryz.prog ae (aC [(lr,kB .i64 2)]) (bc [(999999, .dead,none),(42, .vec 1 (L++ [iT (aL 2 b e)]) (.tail 0 (L.length+1)),some fun T=>{T with tails:= [(L.length+1,1,true)]})]) 300 aK none 0 (cI Tryz.prog jn 2) (aR 55 t6 (yn L n j)) ⟨[aE b a e], [(L.length,1,true)]⟩ [] (dm t6 Q)=
 (bif decide ((↑j:Int)<n)
 then (((@Eq (Bool) true true)∧
 IsB (b))∧
 (ba Tryz.prog (fun _=> .none) 0 ⟨[(.cells [ax,(aI (aA (↑(2:Nat):Int) b e)),(ak (bt (↑(2:Nat):Int) b e a)),(ak (aB (↑(2:Nat):Int) b e))])], [((List.length L),(1,true))]⟩ (.call ⟨(.builtin .append), #[(.tmp 38),(.tmp 41)], #[59,59]⟩) [(38,(lL L (List.length L))),(41,(pQ [[(.val (.int .i64 (aL (2:Nat) b e)))]]))] (lL (L++ [iT (aL (2:Nat) b e)]) (List.length L+(1:Nat))) ⟨[(.cells [ax,(aI (aA (↑(2:Nat):Int) b e)),(ak (bt (↑(2:Nat):Int) b e a)),(ak (aB (↑(2:Nat):Int) b e))])], [((List.length L+(1:Nat)),(1,true))]⟩∧
 Q .normal [aO,aj,eg,(lL (L++ [iT (aL (2:Nat) b e)]) (List.length L+(1:Nat))),(ak n),(ak (IntKind.wrap IntKind.i64 ((↑j:Int)+(1:Int))))] ⟨[(.cells [ax,(aI (aA (↑(2:Nat):Int) b e)),(ak (bt (↑(2:Nat):Int) b e a)),(ak (aB (↑(2:Nat):Int) b e))])], [((List.length L+(1:Nat)),(1,true))]⟩ [] 55))
 else Q (.exit 2) [aO,aj,eg,(lL L (List.length L)),(ak n),(ak (↑j:Int))] ⟨[(.cells [ax,(aI b),(ak a),(ak e)])], [((List.length L),(1,true))]⟩ [] 55):=by kernel_rfl
abbrev t7 (b:Bs) (e:Int) (a:Int):TV:=(ak (bt (↑(1:Nat):Int) (aA (↑(1:Nat):Int) b e) (aB (↑(1:Nat):Int) b e) (bt (↑(1:Nat):Int) b e a)))
abbrev t8 (b:Bs) (e:Int):TV:=(aI (aA (↑(1:Nat):Int) (aA (↑(1:Nat):Int) b e) (aB (↑(1:Nat):Int) b e)))
abbrev t9 (b:Bs) (e:Int):TV:=(ak (aB (↑(1:Nat):Int) (aA (↑(1:Nat):Int) b e) (aB (↑(1:Nat):Int) b e)))
abbrev KZ (L:Bs) (b:Bs) (e:Int):List TV:=(Jg L (List.length L) (aL (1:Nat) (aA (↑(1:Nat):Int) b e) (aB (↑(1:Nat):Int) b e)))
theorem GJ (b b2 b' L L' :Bs) (a e a2 e2 a' e' n:Int) (Q:Exit→List TV→VT→List Nat→Nat→Prop):vx Tryz.prog ae (aC [(jA,lS),(gU,kB .i64 1)]) (bc [(999999, .dead,none)]) 300 (PI b2 b' L L' a2 e2 a' e' n (aH Tryz.prog jn 2)) none 0 (cI Tryz.prog jn 0) (aR 55 yl (ym L)) ⟨[aE b a e], [(L.length,1,true)]⟩ [] (dm yl Q)=
 (((@Eq (Bool) true true)∧
 IsB (b))∧
 (bif decide (bp b e>(0:Int))
 then (((@Eq (Bool) true true)∧
 IsB (b))∧
 (((@Eq (Bool) true true)∧
 IsB (aA (↑(1:Nat):Int) b e))∧
 (bif av BinOp.neq (k6 (aL (1:Nat) b e) (1:Int))
 then (bif av BinOp.neq (k6 (aL (1:Nat) b e) (2:Int))
 then Q .ret (rj L (List.length L)) ⟨[(.cells [ax,(t8 b e),(t7 b e a),(t9 b e)])], [((List.length L),(1,true))]⟩ [] 55
 else (bif av BinOp.eql (k6 (aL (1:Nat) (aA (↑(1:Nat):Int) b e) (aB (↑(1:Nat):Int) b e)) (0:Int))
 then Q .ret (rj L (List.length L)) ⟨[(.cells [ax,(t8 b e),(t7 b e a),(t9 b e)])], [((List.length L),(1,true))]⟩ [] 55
 else (bif decide (IntKind.wrap IntKind.i64 ((↑(List.length L):Int)+aL (1:Nat) (aA (↑(1:Nat):Int) b e) (aB (↑(1:Nat):Int) b e))>(16:Int))
 then Q .ret (rj L (List.length L)) ⟨[(.cells [ax,(t8 b e),(t7 b e a),(t9 b e)])], [((List.length L),(1,true))]⟩ [] 55
 else ((aH Tryz.prog jn (2:Nat)=aH Tryz.prog jn (2:Nat))∧
 (((@Eq (Option Nat) .none .none)∧
 ((@Eq (Nat) 0 0)∧
 ((@Eq (List Nat) [] [])∧
 (True  ∧
 ((@Eq (VT) ⟨[(.cells [ax,(t8 b e),(t7 b e a),(t9 b e)])], [((List.length L),(1,true))]⟩ ⟨[(.cells [ax,(aI b2),(ak a2),(ak e2)])], [((List.length L),(1,true))]⟩)∧
 ((@Eq (Bool) true true)∧
 (@Eq (List TV) (KZ L b e) (Jg L (List.length L) n))))))))∧
 Q .normal (rj L' (List.length L')) ⟨[(.cells [ax,(aI b'),(ak a'),(ak e')])], [((List.length L'),(1,true))]⟩ [] 55)))))
 else (bif av BinOp.eql (k6 (aL (1:Nat) (aA (↑(1:Nat):Int) b e) (aB (↑(1:Nat):Int) b e)) (0:Int))
 then Q .ret (rj L (List.length L)) ⟨[(.cells [ax,(t8 b e),(t7 b e a),(t9 b e)])], [((List.length L),(1,true))]⟩ [] 55
 else (bif decide (IntKind.wrap IntKind.i64 ((↑(List.length L):Int)+aL (1:Nat) (aA (↑(1:Nat):Int) b e) (aB (↑(1:Nat):Int) b e))>(16:Int))
 then Q .ret (rj L (List.length L)) ⟨[(.cells [ax,(t8 b e),(t7 b e a),(t9 b e)])], [((List.length L),(1,true))]⟩ [] 55
 else ((aH Tryz.prog jn (2:Nat)=aH Tryz.prog jn (2:Nat))∧
 (((@Eq (Option Nat) .none .none)∧
 ((@Eq (Nat) 0 0)∧
 ((@Eq (List Nat) [] [])∧
 (True  ∧
 ((@Eq (VT) ⟨[(.cells [ax,(t8 b e),(t7 b e a),(t9 b e)])], [((List.length L),(1,true))]⟩ ⟨[(.cells [ax,(aI b2),(ak a2),(ak e2)])], [((List.length L),(1,true))]⟩)∧
 ((@Eq (Bool) true true)∧
 (@Eq (List TV) (KZ L b e) (Jg L (List.length L) n))))))))∧
 Q .normal (rj L' (List.length L')) ⟨[(.cells [ax,(aI b'),(ak a'),(ak e')])], [((List.length L'),(1,true))]⟩ [] 55)))))))
 else Q (.exit 0) (rj L (List.length L)) ⟨[(.cells [ax,(aI b),(ak a),(ak e)])], [((List.length L),(1,true))]⟩ [] 55)):=by kernel_rfl
theorem SV (b:Bs) (P:Bs→Int→Prop) (N:Prop) (Q:TV→VT→Prop):au Tryz.prog ae (aC [(lM,gD),(iu,kC),(GH,KY)]) (bc [(999999, .dead,none)]) 300 (T9 b P N (aH Tryz.prog jn 0)) 0 jn [.vec 1 b .none] aG Q=
 (IsB (b)∧
 ((aH Tryz.prog jn (0:Nat)=aH Tryz.prog jn (0:Nat))∧
 (((@Eq (Option Nat) .none .none)∧
 ((@Eq (Nat) 0 0)∧
 ((@Eq (List Nat) [] [])∧
 (((@Eq (Option TV) (.some aO) (.some aO))∧
 True)∧
 ((@Eq (VT) ⟨[(.cells [ax,(aI b),aD,aD])], [(0,(1,true))]⟩ ⟨[(.cells [ax,(aI b),aD,aD])], [(0,(1,true))]⟩)∧
 ((@Eq (Bool) true true)∧
 (@Eq (List TV) [aO,aj,eg,(.vec 1 [] (.tail 0 0))] [aO,aj,eg,(.vec 1 [] (.tail 0 0))])))))))∧
 ((∀L:Bs,(∀bz:Bs,(∀az:Int,(∀ez:Int,((IsB (bz)∧
 P (L) (ez))→(((@Eq (Bool) true true)∧
 IsB (bz))∧
 (bif av BinOp.eql (k6 ez (0:Int))
 then (T8 (L)∧
 (bif !!has0 L
 then Q y7 ⟨[(.cells [ax,(aI bz),(ak az),(ak ez)])], [((List.length L),(1,true))]⟩
 else Q (.tup [(lL L (List.length L)),ax]) ⟨[(.cells [ax,(aI bz),(ak az),(ak ez)])], [((List.length L),(1,true))]⟩))
 else Q y7 ⟨[(.cells [ax,(aI bz),(ak az),(ak ez)])], [((List.length L),(1,true))]⟩)))))))∧
 (∀rest:List VO,(∀tlz:List (Nat × Nat × Bool),(∀Lz:Bs,(N  →Q y7 ⟨(rest),(tlz)⟩)))))))):=by kernel_rfl
end
section
open Go.RowKit

def iv:Nat→Bs→List Int→Option (Bs × List Int)
 | 0,b,l=>some (b,l)
 | k+1,b,l=>bif decide (aB 2 b 0=0)&&(!decide (aL 2 b 0=0)&& !decide (l.length=16)) then iv k (aA 2 b 0) (l++ [aL 2 b 0]) else none
def tp (b:Bs):Int:=aL 1 b 0
def cK (b:Bs):Int:=aL 1 (aA 1 b 0) (aB 1 b 0)
def jp (b:Bs):Bs:=aA 1 (aA 1 b 0) (aB 1 b 0)
def CW (b:Bs):Int:=aB 1 (aA 1 b 0) (aB 1 b 0)
def lF (b:Bs):Bool:=(decide (tp b=1) || decide (tp b=2))&& !decide (cK b=0)
def iw:Nat→Bs→List Int→Option (List Int)
 | 0,_,_=>none
 | k+1,b,l=>bif decide (bp b 0>0) then (bif lF b then (match iv (cK b).toNat (jp b) l with
  | some (b',l')=>iw k b' l'
  | none=>none) else none) else some l
def lU (b:Bs):Option (List Int):=iw (b.length+1) b []
def rF (b:Bs):Bool:=(lU b).isSome
def CX (b:Bs):List Int:=(lU b).getD []
def vL (b:Bs):TV:= .tup [.vec 1 (iV (CX b)) .none, .val (.bool (rF b))]
theorem dA (l:List Int):(iV l).length=l.length:=List.length_map _
theorem AV (l:List Int) (z:Int):iV (l++ [z])=iV l++ [iT z]:=by simp [iV]
theorem dd (f g:Nat→Option Nat):∀l:List Int,bg f g (iV l)=iV l
 | []=>rfl
 | a::l=>by
  have h:=dd f g l
  simp only [iV,List.map_cons,bg] at h ⊢
  rw [h];rfl
theorem GK {k:Nat} {b:Bs} {e:Int} (h:¬aL k b e=0):aB k b e=0:=by
 unfold aL at h
 cases hc:cn k b e
 ·rw [hc] at h;exact absurd rfl h
 ·simp only [cn,Bool.and_eq_true,decide_eq_true_eq] at hc
  unfold aB
  rw [decide_eq_true hc.1.1,decide_eq_false (show ¬((k:Nat):Int)<0 by omega),decide_eq_true hc.2];rfl
theorem vM {b:Bs} (h:bp b 0>0):(jp b).length<b.length:=by
 have h1:=wX h
 have h2:=lD (n:=1) (b:=aA 1 b 0) (e:=aB 1 b 0)
 unfold jp
 omega
theorem AW {b:Bs} (h:IsB b):IsB (jp b):=aF (aF h)
theorem sN:∀(k:Nat) (b:Bs) (l:List Int) (b' :Bs) (l' :List Int),iv k b l=some (b',l')→b'.length≤b.length∧l'.length=l.length+k
 | 0,b,l,b',l',h=>by
  simp only [iv,Option.some.injEq,Prod.mk.injEq] at h
  obtain ⟨rfl,rfl⟩:=h
  exact ⟨Nat.le_refl _,rfl⟩
 | k+1,b,l,b',l',h=>by
  unfold iv at h
  cases hc:(decide (aB 2 b 0=0)&&(!decide (aL 2 b 0=0)&& !decide (l.length=16)))<;>rw [hc] at h
  ·cases h
  ·obtain ⟨h1,h2⟩:=sN k _ _ _ _ h
   have h3:=lD (n:=2) (b:=b) (e:=0)
   refine ⟨Nat.le_trans h1 h3, ?_⟩
   rw [h2,List.length_append,List.length_cons,List.length_nil];omega
theorem GL:∀(k:Nat) (b:Bs) (l:List Int) (b' :Bs) (l' :List Int),l.length≤16→iv k b l=some (b',l')→l'.length≤16
 | 0,b,l,b',l',h0,h=>by
  simp only [iv,Option.some.injEq,Prod.mk.injEq] at h
  rw [←h.2];exact h0
 | k+1,b,l,b',l',h0,h=>by
  unfold iv at h
  cases hc:(decide (aB 2 b 0=0)&&(!decide (aL 2 b 0=0)&& !decide (l.length=16)))<;>rw [hc] at h
  ·cases h
  ·simp only [Bool.and_eq_true,Bool.not_eq_true',decide_eq_false_iff_not] at hc
   exact GL k _ _ _ _ (by rw [List.length_append,List.length_cons,List.length_nil];omega) h
theorem AX {k:Nat} {b:Bs} {l:List Int} (h0:l.length≤16) (h:l.length+k>16):iv k b l=none:=by
 cases hc:iv k b l with
 | none=>rfl
 | some p=>
  obtain ⟨b',l'⟩:=p
  have h1:=(sN k b l b' l' hc).2
  have h2:=GL k b l b' l' h0 hc
  omega
theorem yp:∀(k j:Nat) (b:Bs) (l:List Int),b.length<k→b.length<j→iw k b l=iw j b l
 | 0,_,_,_,h,_=>absurd h (Nat.not_lt_zero _)
 | _,0,_,_,_,h=>absurd h (Nat.not_lt_zero _)
 | k+1,j+1,b,l,h1,h2=>by
  unfold iw
  by_cases hl:bp b 0>0
  ·have hb:=vM hl
   rw [decide_eq_true hl]
   cases hi:iv (cK b).toNat (jp b) l with
   | none=>rfl
   | some p=>
    obtain ⟨b',l'⟩:=p
    have h3:=(sN _ _ _ _ _ hi).1
    simp only [yp k j b' l' (by omega) (by omega)]
  ·rw [decide_eq_false hl];rfl
theorem ub {b:Bs} {l:List Int} (hl:bp b 0>0) (hh:lF b=false):iw (b.length+1) b l=none:=by
 simp only [iw,decide_eq_true hl,hh,cond_true,cond_false]
theorem rG {b:Bs} {l:List Int} (hl:bp b 0>0) (hi:iv (cK b).toNat (jp b) l=none):iw (b.length+1) b l=none:=by
 simp only [iw,decide_eq_true hl,hi,cond_true]
 cases lF b<;>rfl
theorem GM {b b' :Bs} {l l' :List Int} (hl:bp b 0>0) (hh:lF b=true) (hi:iv (cK b).toNat (jp b) l=some (b',l')):iw (b.length+1) b l=iw (b'.length+1) b' l' :=by
 have h1:=vM hl
 have h2:=(sN _ _ _ _ _ hi).1
 rw [yp (b'.length+1) b.length b' l' (by omega) (by omega)]
 simp only [iw,decide_eq_true hl,hh,hi,cond_true]
theorem JX {b:Bs} {l:List Int} (hl:¬bp b 0>0):iw (b.length+1) b l=some l:=by
 simp only [iw,decide_eq_false hl,cond_false]
def b9:Nat→Bs × Int × Int × List Int→Bs × Int × Int × List Int
 | 0,s=>s
 | k+1,(b,a,e,l)=>b9 k (aA 2 b e,bt 2 b e a,aB 2 b e,l++ [aL 2 b e])
theorem AY:∀(k:Nat) (s:Bs × Int × Int × List Int),IsB s.1→IsB (b9 k s).1∧(b9 k s).1.length≤s.1.length∧(b9 k s).2.2.2.length=s.2.2.2.length+k
 | 0,s,h=>⟨h,Nat.le_refl _,rfl⟩
 | k+1,(b,a,e,l),h=>by
  obtain ⟨h1,h2,h3⟩:=AY k (aA 2 b e,bt 2 b e a,aB 2 b e,l++ [aL 2 b e]) (aF h)
  have h4:=lD (n:=2) (b:=b) (e:=e)
  simp only [List.length_append,List.length_cons,List.length_nil] at h2 h3
  refine ⟨h1, ?_, ?_⟩
  ·simp only [b9];omega
  ·simp only [b9];omega
theorem PM {n:Int} {b:Bs} {e:Int} (h:¬e=0):aB n b e=e:=by unfold aB;rw [decide_eq_false h];rfl
theorem CY:∀(k:Nat) (s:Bs × Int × Int × List Int),¬s.2.2.1=0→¬(b9 k s).2.2.1=0
 | 0,_,h=>h
 | k+1,(b,a,e,l),h=>by
  simp only [b9]
  exact CY k _ (by simp only;rw [PM h];exact h)
theorem pW:∀(k:Nat) (s:Bs × Int × Int × List Int),0∈s.2.2.2→0∈(b9 k s).2.2.2
 | 0,_,h=>h
 | k+1,(b,a,e,l),h=>by
  simp only [b9]
  exact pW k _ (List.mem_append_left _ h)
theorem GN:∀(k:Nat) (b:Bs) (a:Int) (l:List Int),l.length+k≤16→(∃b' l',iv k b l=some (b',l')∧(b9 k (b,a,0,l)).1=b' ∧(b9 k (b,a,0,l)).2.2.1=0∧(b9 k (b,a,0,l)).2.2.2=l' ∧(¬0∈l→¬0∈l'))∨
    (iv k b l=none∧(¬(b9 k (b,a,0,l)).2.2.1=0∨0∈(b9 k (b,a,0,l)).2.2.2))
  | 0,b,a,l,_=> .inl ⟨b,l,rfl,rfl,rfl,rfl,fun h=>h⟩
  | k+1,b,a,l,h=>by
    have h16:¬l.length=16:=by omega
    by_cases he:aB 2 b 0=0
    · by_cases hz:aL 2 b 0=0
      · refine .inr ⟨by simp only [iv,decide_eq_true he,decide_eq_true hz,Bool.not_true,Bool.false_and,Bool.and_false,cond_false], .inr ?_⟩
        simp only [b9]
        refine pW k _ (List.mem_append_right _ ?_)
        rw [show aL 2 b 0=0 from hz];exact List.mem_cons_self
      · have e1:iv (k+1) b l=iv k (aA 2 b 0) (l++ [aL 2 b 0]):=by
          simp only [iv,decide_eq_true he,decide_eq_false hz,decide_eq_false h16,Bool.not_false,Bool.and_self,cond_true]
        have e2:b9 (k+1) (b,a,0,l)=b9 k (aA 2 b 0,bt 2 b 0 a,0,l++ [aL 2 b 0]):=by
          show b9 k (aA (2:Int) b 0,bt 2 b 0 a,aB 2 b 0,l++ [aL 2 b 0])=_
          rw [he]
        rw [e1,e2]
        rcases GN k (aA 2 b 0) (bt 2 b 0 a) (l++ [aL 2 b 0]) (by rw [List.length_append,List.length_cons,List.length_nil];omega) with ⟨b',l',g1,g2,g3,g4,g5⟩ | g
        · refine .inl ⟨b',l',g1,g2,g3,g4,fun hn=>g5 fun hm=> ?_⟩
          rcases List.mem_append.1 hm with hm | hm
          · exact hn hm
          · exact hz (List.mem_singleton.1 hm).symm
        · exact .inr g
    · refine .inr ⟨by simp only [iv,decide_eq_false he,Bool.false_and,cond_false], .inl ?_⟩
      simp only [b9]
      exact CY k _ he
theorem CZ (l:List Int):has0 (iV l)=decide (0∈l):=by
 induction l with
 | nil=>rfl
 | cons a l ih=>
  have e:has0 (iV (a::l))=(decide (a=0) || has0 (iV l)):=rfl
  rw [e,ih]
  by_cases ha:a=0
  ·subst ha;simp
  ·have:¬(0:Int)=a:=fun h=>ha h.symm
   simp [ha,this]
theorem AZ:∃inf:TypeInfo,Tryz.prog.info? 3=some inf∧inf.size=1∧inf.bytes+1≤1000∧inf.zero=some (.int .i64 0):=
 ⟨(Tryz.prog.info? 3).getD default,by kernel_rfl,by kernel_rfl,Nat.le_of_ble_eq_true (by kernel_rfl),by kernel_rfl⟩
theorem JY {ro:Nat} {T T1:VT} {s x:Operand} {l:List (Nat × TV)} {es es2:List (List TV)} {k n:Nat} {bn:Bool} (hs:cZ T 1 (aS ae l s)=some (es,k,n,bn,T1)) (hx:gY 1 (aS ae l x)=some es2) (hb:es.length+es2.length≤2000001):
    ba Tryz.prog ae ro T (.call ⟨.builtin .append, #[s,x], #[59,59]⟩) l (.vec 1 (es++es2) (.tail k (n+es2.length))) {T1 with tails:=T1.tails.set k (n+es2.length,1,bn)}:=by
  obtain ⟨inf,i1,i2,i3,i4⟩:=AZ
  have h:=gj (inf:=inf) (P:=Tryz.prog) (G:=ae) (ro:=ro) (T:=T) (T1:=T1) (t:=59) (tx:=59) (s:=s) (x:=x) (l:=l) (es:=es) (es2:=es2) (k:=k) (n:=n) (bn:=bn) Tryz.underlying59 i1 i4 (by rw [i2];rfl) (by rw [i2];decide) (by kernel_rfl) (by rw [i2];exact hs) (by rw [i2];exact hx)
    (by have h1:=i3
        have h2:=Nat.mul_le_mul hb h1
        omega)
  rw [i2] at h
  exact h
theorem ni {x i:Operand} {l:List (Nat × TV)} {b:Bs} {tok:Tok} {k:IntKind} {z:Int} {e:List TV} (hx:aS ae l x= .vec 1 b tok) (hz:aS ae l i= .val (.int k z)) (h0:0≤z) (he:b[z.toNat]?=some e):
  bo Tryz.prog ae (.indexAddr 59 x i) l (.elt e):=by
 obtain ⟨inf,i1,i2,_,_⟩:=AZ
 exact gO (inf:=inf) Tryz.underlying59 i1 (by rw [i2];exact hx) hz h0 he
def tq (l:List Int) (v:Int):Int:=match l.findIdx? (fun z=>decide (v=z)) with
 | some k=>k
 | none=>-1
theorem PN (l:List Int) (hl:l.length≤1000) (v:Int):VCx Tryz.prog ae 0 vK [.vec 1 (iV l) .none, .val (.int .i64 v)] ⟨[], []⟩ fun x T' =>x= .val (.int .i64 (tq l v))∧T' =⟨[], []⟩:=by
  have hloop:dD Tryz.prog ae (T7 (iV l) v (tq l v) (tq l v) (l.findIdx? (fun z=>decide (v=z))).isSome (aH Tryz.prog vK 0)):=bL fun p hp=>by
    obtain rfl:=List.mem_singleton.1 hp
    refine cA fun K hK=> ?_
    let Post:Exit→List TV→VT→Prop:=fun e vs T=>(∃k:Nat,l.findIdx? (fun z=>decide (v=z))=some k∧e= .ret∧vs=yk (iV l) v k k∧T=⟨[], []⟩)∨(l.findIdx? (fun z=>decide (v=z))=none∧e= .normal∧vs=yk (iV l) v 0 l.length∧T=⟨[], []⟩)
    refine dS (f:=vK) (id:=0) (by kernel_rfl) 19 CV (fun j:Nat=>l.length-j) (fun j=>yk (iV l) v 0 j) (fun _=>⟨[], []⟩) (fun j=>j≤l.length∧∀k z,k<j→l[k]?=some z→v≠z) 0 0 (fun _ _=>⟨Nat.le_refl _,Nat.le_refl _⟩)
      Post (fun j hj=> ?_) 0 ⟨Nat.zero_le _,fun k _ hk=>absurd hk (Nat.not_lt_zero k)⟩ K (fun e vs T hq=> ?_)
    · obtain ⟨hj,hne⟩:=hj
      by_cases hlt:j<l.length
      · have hs:l[j]?=some l[j]:=List.getElem?_eq_getElem hlt
        generalize hzz:l[j]=z at hs
        have hw:=DK j (by omega)
        refine b7 ac aa an ah (GI (iV l) v 0 z j _) ?_
        refine aQ (decide_eq_true (by rw [dA];omega)) ⟨ni rfl rfl (Int.natCast_nonneg _) (by rw [Int.toNat_natCast];simp only [iV,List.getElem?_map,hs];rfl), ?_⟩
        by_cases he:v=z
        · refine aQ (by rw [ec];exact decide_eq_true he) ⟨rfl,rfl, .inl ⟨j, ?_,rfl,rfl,rfl⟩⟩
          refine List.findIdx?_eq_some_iff_getElem.2 ⟨hlt,by rw [hzz];exact decide_eq_true he,fun k hk=> ?_⟩
          have:=hne k _ hk (List.getElem?_eq_getElem (by omega))
          simpa using this
        · refine aM (by rw [ec];exact decide_eq_false he) ⟨rfl,rfl,j+1,⟨hlt,fun k z' hk hz' => ?_⟩,by simp only;omega, .inr ⟨rfl, ?_⟩⟩
          · rcases Nat.lt_or_ge k j with h | h
            · exact hne k z' h hz'
            · obtain rfl:k=j:=by omega
              rw [hs] at hz';injection hz' with hz';subst hz';exact he
          · rw [hw]
            simp only [ar,TV.ren,dd,Tok.ren,yk]
      · obtain rfl:j=l.length:=by omega
        refine b7 ac aa an ah (GI (iV l) v 0 0 l.length _) ?_
        refine aM (decide_eq_false (by rw [dA];omega)) ⟨rfl,rfl, .inr ⟨?_,rfl,rfl,rfl⟩⟩
        refine List.findIdx?_eq_none_iff.2 fun z hz=> ?_
        obtain ⟨k,hk,rfl⟩:=List.getElem_of_mem hz
        simpa using hne k _ hk (List.getElem?_eq_getElem hk)
    · rcases hq with ⟨k,h1,rfl,rfl,rfl⟩ | ⟨h1,rfl,rfl,rfl⟩
      · simp only [h1,Option.isSome_some,cond_true,tq] at hK
        exact hK
      · simp only [h1,Option.isSome_none,cond_false,dA] at hK
        exact hK
  refine ai ac aa an hloop (ST (iV l) v (tq l v) (tq l v) _ _) ⟨rfl,⟨rfl,rfl,rfl,trivial,rfl,rfl,rfl⟩, ?_⟩
  unfold tq
  cases h:l.findIdx? (fun z=>decide (v=z)) with
  | none=>exact aM rfl ⟨rfl,rfl⟩
  | some k=>exact aQ rfl ⟨rfl,rfl⟩
theorem SW (l:List Int):decide (tq l 0≥0)=decide (0∈l):=by
 unfold tq
 cases h:l.findIdx? (fun z=>decide (0=z)) with
 | none=>
  have h1:=List.findIdx?_eq_none_iff.1 h
  have h2:¬(0:Int)∈l:=fun hm=>by simpa using h1 0 hm
  simp [h2]
 | some k=>
  obtain ⟨hk,h1,_⟩:=List.findIdx?_eq_some_iff_getElem.1 h
  have h2:(0:Int)∈l:=by
   have e:(0:Int)=l[k]:=of_decide_eq_true h1
   rw [e];exact List.getElem_mem hk
  have h3:((k:Nat):Int)≥0:=by omega
  rw [decide_eq_true h2];exact decide_eq_true h3
theorem PO (l:List Int) (hl:l.length≤1000):VCx Tryz.prog ae 0 GH [.vec 1 (iV l) .none, .val (.int .i64 0)] ⟨[], []⟩ fun x T' =>x= .val (.bool (has0 (iV l)))∧T' =⟨[], []⟩:=by
 refine ai ac aa (aJ fun p hp=>by
  obtain rfl:=List.mem_singleton.1 hp
  exact Ga aq (by simp [ar,TV.ren,dd,Tok.ren]) (fun _ _=>rfl) (PN l hl 0)) ah (SU (iV l) 0 (tq l 0) _) ⟨rfl, ?_,rfl⟩
 rw [CZ,SW]
theorem PP:∀ro ys T K,KY ro ys T K→VCx Tryz.prog ae ro GH ys T K:=by
 intro ro ys T K hw
 unfold KY at hw
 split at hw
 ·rename_i L tok
  obtain ⟨⟨l,rfl,hl⟩,hk⟩:=hw
  exact VCx.loosePure aq (PO l hl) (by simp [bG]) (by simp [ar,TV.ren,dd,Tok.ren]) (fun f h=>rfl) hk
 ·exact hw.elim
end
section
open Go.RowKit

abbrev oB:=Bs × Int × Int × List Int
theorem GO (s0:oB) (h0:IsB s0.1) (n:Nat) (hn:s0.2.2.2.length+n≤1000) (K:KX)
    (hK:K .normal (aR 55 t6 (yn (iV (b9 n s0).2.2.2) n n)) ⟨[aE (b9 n s0).1 (b9 n s0).2.1 (b9 n s0).2.2.1], [((iV (b9 n s0).2.2.2).length,1,true)]⟩ []):
    VWx Tryz.prog ae none 0 (aH Tryz.prog jn 2) (aR 55 t6 (yn (iV s0.2.2.2) n 0)) ⟨[aE s0.1 s0.2.1 s0.2.2.1], [((iV s0.2.2.2).length,1,true)]⟩ [] K:=by
  let sl:Nat × oB→List TV:=fun s=>yn (iV s.2.2.2.2) n s.1
  let TT:Nat × oB→VT:=fun s=>⟨[aE s.2.1 s.2.2.1 s.2.2.2.1], [((iV s.2.2.2.2).length,1,true)]⟩
  let Post:Exit→List TV→VT→Prop:=fun e vs T=>e= .normal∧vs=yn (iV (b9 n s0).2.2.2) n n∧T=⟨[aE (b9 n s0).1 (b9 n s0).2.1 (b9 n s0).2.2.1], [((iV (b9 n s0).2.2.2).length,1,true)]⟩
  refine dS (f:=jn) (id:=2) (by kernel_rfl) 55 t6 (fun s:Nat × oB=>n-s.1) sl TT (fun s=>s.1≤n∧IsB s.2.1∧s.2.2.2.2.length=s0.2.2.2.length+s.1∧b9 (n-s.1) s.2=b9 n s0) 1 1 (fun _ _=>⟨Nat.le_refl _,Nat.le_refl _⟩)
    Post (fun s hs=> ?_) (0,s0) ⟨Nat.zero_le _,h0,rfl,rfl⟩ K (fun e vs T ⟨h1,h2,h3⟩=>by subst h1 h2 h3;exact hK)
  obtain ⟨j,b,a,e,l⟩:=s
  obtain ⟨hj,hb,hlen,hgo⟩:=hs
  simp only at hj hb hlen hgo
  have hS:aZ Tryz.prog ae (aC [(lr,kB .i64 2)]):=aJ fun p hp=>by obtain rfl:=List.mem_singleton.1 hp;exact sL
  refine b7 ac aa hS ah (PL b (iV l) a e n j _) ?_
  by_cases hlt:j<n
  · have hw:=DK j (by omega)
    refine aQ (decide_eq_true (by omega)) ⟨⟨rfl,hb⟩, ?_,rfl,rfl,(j+1,aA 2 b e,bt 2 b e a,aB 2 b e,l++ [aL 2 b e]),⟨hlt,aF hb,by simp only [List.length_append,List.length_cons,List.length_nil];omega, ?_⟩,by simp only;omega, .inr ⟨?_, ?_⟩⟩
    · have h:=JY (ro:=0) (T:=⟨[aE (aA 2 b e) (bt 2 b e a) (aB 2 b e)], [((iV l).length,1,true)]⟩) (T1:=⟨[aE (aA 2 b e) (bt 2 b e a) (aB 2 b e)], [((iV l).length,1,true)]⟩) (s:= .tmp 38) (x:= .tmp 41) (l:= [(38, .vec 1 (iV l) (.tail 0 (iV l).length)),(41, .vec 1 [iT (aL 2 b e)] .full)]) (es:=iV l) (es2:= [iT (aL 2 b e)]) (k:=0) (n:=(iV l).length) (bn:=true)
        (by simp [aS,ea,cZ]) rfl (by rw [dA];simp only [List.length_cons,List.length_nil];omega)
      exact h
    · rw [←hgo,show n-j=(n-(j+1))+1 by omega];rfl
    · refine (show VT.keep ⟨aE (aA 2 b e) (bt 2 b e a) (aB 2 b e)::_,_⟩ 1 1=_ from ?_)
      simp only [VT.keep,List.take_succ_cons,List.take_zero,List.map_cons,List.map_nil,bC (aF hb)]
      simp only [TT,AV,List.length_append,List.length_cons,List.length_nil]
    · have e2:=dd (aw 1) (aw 1) (l++ [aL 2 b e])
      rw [AV] at e2
      have e3:bg (aw 1) (aw 1) (iV l++ [iT (aL ((2:Nat)) b e)])=iV l++ [iT (aL 2 b e)]:=e2
      rw [hw]
      simp only [ar,TV.ren,e3,Tok.ren]
      simp only [sl,yn,AV,List.length_append,List.length_cons,List.length_nil]
      rfl
  · obtain rfl:j=n:=by omega
    rw [Nat.sub_self] at hgo
    refine aM (decide_eq_false (by omega)) ⟨rfl,rfl,rfl, ?_, ?_⟩
    · rw [←hgo];rfl
    · rw [←hgo];rfl
def PInv (b0 b:Bs) (e:Int) (l:List Int):Prop:=l.length≤16∧((e=0∧¬0∈l∧iw (b.length+1) b l=lU b0)∨((¬e=0∨0∈l)∧lU b0=none))
def A0 (b0:Bs) (L:Bs) (ez:Int):Prop:=∃l:List Int,L=iV l∧l.length≤16∧((ez=0∧¬0∈l∧lU b0=some l)∨((¬ez=0∨0∈l)∧lU b0=none))
def GP (b0:Bs) (ex:Exit) (vs:List TV) (T:VT):Prop:=
 (∃(L bz:Bs) (az ez:Int),(IsB bz∧A0 b0 L ez)∧ex= .normal∧vs=ym L∧T=⟨[aE bz az ez], [(L.length,1,true)]⟩)∨
 (∃(rest:List VO) (tlz:List (Nat × Nat × Bool)) (Lz:Bs),lU b0=none∧ex= .ret∧vs=ym Lz∧T=⟨rest,tlz⟩)
theorem GQ {b0:Bs} {K:KX} (hK:PJ (A0 b0) (lU b0=none) K) {ex:Exit} {vs:List TV} {T:VT} (h:GP b0 ex vs T):K ex (aR 55 yl vs) T []:=by
 rcases h with ⟨L,bz,az,ez,h1,rfl,rfl,rfl⟩ | ⟨rest,tlz,Lz,h1,rfl,rfl,rfl⟩
 ·exact hK.1 L bz az ez h1
 ·exact hK.2 rest tlz Lz h1
theorem PInv.ret {b0 b:Bs} {l:List Int} (h:PInv b0 b 0 l) (hn:iw (b.length+1) b l=none):lU b0=none:=by
 rcases h.2 with ⟨_,_,h3⟩ | ⟨_,h3⟩
 ·rw [←h3];exact hn
 ·exact h3
theorem PInv.step {b0 b:Bs} {l:List Int} (h:PInv b0 b 0 l) (hl:bp b 0>0) (hh:lF b=true) (h16:l.length+(cK b).toNat≤16) (a:Int):PInv b0 (b9 (cK b).toNat (jp b,a,0,l)).1 (b9 (cK b).toNat (jp b,a,0,l)).2.2.1 (b9 (cK b).toNat (jp b,a,0,l)).2.2.2:=by
  have hln:∀(k:Nat) (s:oB),(b9 k s).2.2.2.length=s.2.2.2.length+k:=by
    intro k
    induction k with
    | zero=>intro s;rfl
    | succ k ih=>
      rintro ⟨b,a,e,l⟩
      simp only [b9]
      rw [ih]
      simp only [List.length_append,List.length_cons,List.length_nil];omega
  refine ⟨by rw [hln];exact h16, ?_⟩
  rcases h.2 with ⟨_,h2,h3⟩ | ⟨h2,h3⟩
  · rcases GN (cK b).toNat (jp b) a l h16 with ⟨b',l',g1,g2,g3,g4,g5⟩ | ⟨g1,g2⟩
    · refine .inl ⟨g3,by rw [g4];exact g5 h2, ?_⟩
      rw [g2,g4,←GM hl hh g1];exact h3
    · exact .inr ⟨g2,by rw [←h3];exact rG hl g1⟩
  · refine .inr ⟨.inr ?_,h3⟩
    rcases h2 with h2 | h2
    · exact absurd rfl h2
    · exact pW _ _ h2
theorem A1 (s0:oB) (h0:IsB s0.1) (n:Int) (h1:0≤n) (hn:s0.2.2.2.length+n.toNat≤1000):dD Tryz.prog ae (PI s0.1 (b9 n.toNat s0).1 (iV s0.2.2.2) (iV (b9 n.toNat s0).2.2.2) s0.2.1 s0.2.2.1 (b9 n.toNat s0).2.1 (b9 n.toNat s0).2.2.1 n (aH Tryz.prog jn 2)):=bL fun p hp=>by
 obtain rfl:=List.mem_singleton.1 hp
 refine cA fun K hK=> ?_
 have h:=GO s0 h0 n.toNat hn K
 rw [show ((n.toNat:Nat):Int)=n by omega] at h
 exact h hK
end
section
open Go.RowKit

theorem K0 {b:Bs} (hb:IsB b) (a e:Int) (k:Nat):VT.keep ⟨[aE b a e], [(k,1,true)]⟩ 1 1=⟨[aE b a e], [(k,1,true)]⟩:=by
 simp only [VT.keep,List.take_succ_cons,List.take_zero,List.map_cons,List.map_nil,bC hb]
theorem Ua {l:List Int} {n:Int} (hwr:IntKind.wrap .i64 ((l.length:Int)+n)=(l.length:Int)+n) (h:decide (IntKind.wrap .i64 (((iV l).length:Int)+n)>16)=true):(l.length:Int)+n>16:=by
 rw [dA,hwr] at h;exact of_decide_eq_true h
theorem Ub {l:List Int} {n:Int} (hwr:IntKind.wrap .i64 ((l.length:Int)+n)=(l.length:Int)+n) (h:decide (IntKind.wrap .i64 (((iV l).length:Int)+n)>16)=false):¬(l.length:Int)+n>16:=by
 rw [dA,hwr] at h;exact of_decide_eq_false h
theorem JZ {b0:Bs} (h0:IsB b0) (K:KX) (hK:PJ (A0 b0) (lU b0=none) K):VWx Tryz.prog ae none 0 (aH Tryz.prog jn 0) (aR 55 yl (ym [])) ⟨[aE b0 0 0], [(0,1,true)]⟩ [] K:=by
  let sl:oB→List TV:=fun s=>ym (iV s.2.2.2)
  let TT:oB→VT:=fun s=>⟨[aE s.1 s.2.1 s.2.2.1], [((iV s.2.2.2).length,1,true)]⟩
  refine dS (f:=jn) (id:=0) (by kernel_rfl) 55 yl (fun s:oB=>s.1.length) sl TT (fun s=>IsB s.1∧PInv b0 s.1 s.2.2.1 s.2.2.2) 1 1 (fun _ _=>⟨Nat.le_refl _,Nat.le_refl _⟩)
    (GP b0) (fun s hs=> ?_) (b0,0,0, []) ⟨h0,⟨Nat.zero_le _, .inl ⟨rfl,by simp,rfl⟩⟩⟩ K (fun e vs T h=>GQ hK h)
  obtain ⟨b,a,e,l⟩:=s
  obtain ⟨hb,hI⟩:=hs
  simp only at hb hI
  have hS:aZ Tryz.prog ae (aC [(jA,lS),(gU,kB .i64 1)]):=aJ fun p hp=>by
    rcases List.mem_cons.1 hp with rfl | hp;exact nc
    obtain rfl:=List.mem_singleton.1 hp;exact oZ
  by_cases hl:bp b e>0
  · obtain ⟨rfl,_⟩:=Gx hl
    let S0:oB:=(jp b,bt 1 (aA 1 b 0) (aB 1 b 0) (bt 1 b 0 a),CW b,l)
    have hnb:0≤cK b∧cK b<256:=AI (aF hb) _
    have hnb2:0≤aL 1 (aA 1 b 0) (aB 1 b 0)∧aL 1 (aA 1 b 0) (aB 1 b 0)<256:=hnb
    have hl16:=hI.1
    have hwr:IntKind.wrap .i64 ((l.length:Int)+cK b)=(l.length:Int)+cK b:=bP (by omega) (by omega)
    refine b7 ac aa hS (A1 S0 (AW hb) (cK b) hnb.1 (show l.length+(cK b).toNat≤1000 by omega)) (GJ b (jp b) (b9 (cK b).toNat S0).1 (iV l) (iV (b9 (cK b).toNat S0).2.2.2) a 0 (bt 1 (aA 1 b 0) (aB 1 b 0) (bt 1 b 0 a)) (CW b) (b9 (cK b).toNat S0).2.1 (b9 (cK b).toNat S0).2.2.1 (cK b) _) ?_
    refine ⟨⟨rfl,hb⟩, ?_⟩
    refine aQ (decide_eq_true hl) ⟨⟨rfl,hb⟩,⟨rfl,aF hb⟩, ?_⟩
    refine am (fun c1=> ?_) (fun c1=> ?_)
    · refine am (fun c1b=> ?_) (fun c1b=> ?_)
      · have hH:lF b=false:=by
          unfold lF tp
          rw [decide_eq_false (show ¬aL 1 b 0=1 from eM c1),decide_eq_false (show ¬aL 1 b 0=2 from eM c1b)];rfl
        exact ⟨rfl,rfl, .inr ⟨_,_,iV l,hI.ret (ub hl hH),rfl,rfl,rfl⟩⟩
      · have hC:(decide (tp b=1) || decide (tp b=2))=true:=by rw [decide_eq_true (show tp b=2 from eO c1b),Bool.or_true]
        refine am (fun c2=> ?_) (fun c2=> ?_)
        · have hH:lF b=false:=by unfold lF cK;rw [decide_eq_true (show aL 1 (aA 1 b 0) (aB 1 b 0)=0 from dP c2)];simp
          exact ⟨rfl,rfl, .inr ⟨_,_,iV l,hI.ret (ub hl hH),rfl,rfl,rfl⟩⟩
        have d2:¬cK b=0:=di c2
        refine am (fun c3=> ?_) (fun c3=> ?_)
        · have d3:(l.length:Int)+cK b>16:=Ua hwr c3
          exact ⟨rfl,rfl, .inr ⟨_,_,iV l,hI.ret (rG hl (AX hI.1 (by omega))),rfl,rfl,rfl⟩⟩
        have d3:¬(l.length:Int)+cK b>16:=Ub hwr c3
        have h16:l.length+(cK b).toNat≤16:=by omega
        have hE:CW b=0:=GK d2
        have hH:lF b=true:=by unfold lF;rw [decide_eq_false d2,hC];rfl
        have hst:=hI.step hl hH h16 (bt 1 (aA 1 b 0) (aB 1 b 0) (bt 1 b 0 a))
        have hps:b9 (cK b).toNat (jp b,bt 1 (aA 1 b 0) (aB 1 b 0) (bt 1 b 0 a),0,l)=b9 (cK b).toNat S0:=by
          show b9 (cK b).toNat (jp b,bt 1 (aA 1 b 0) (aB 1 b 0) (bt 1 b 0 a),0,l)=b9 (cK b).toNat (jp b,bt 1 (aA 1 b 0) (aB 1 b 0) (bt 1 b 0 a),CW b,l)
          rw [hE]
        rw [hps] at hst
        obtain ⟨i1,i2,_⟩:=AY (cK b).toNat S0 (AW hb)
        have hlt:=vM hl
        refine ⟨rfl,⟨rfl,rfl,rfl,trivial,rfl,rfl,rfl⟩,rfl,rfl,b9 (cK b).toNat S0,⟨i1,hst⟩,Nat.lt_of_le_of_lt i2 hlt, .inr ⟨?_, ?_⟩⟩
        · exact K0 i1 _ _ _
        · have e2:=dd (aw 1) (aw 1) (b9 (cK b).toNat S0).2.2.2
          simp only [ar,TV.ren,e2,Tok.ren]
          rfl
    · have hC:(decide (tp b=1) || decide (tp b=2))=true:=by rw [decide_eq_true (show tp b=1 from eO c1),Bool.true_or]
      refine am (fun c2=> ?_) (fun c2=> ?_)
      · have hH:lF b=false:=by unfold lF cK;rw [decide_eq_true (show aL 1 (aA 1 b 0) (aB 1 b 0)=0 from dP c2)];simp
        exact ⟨rfl,rfl, .inr ⟨_,_,iV l,hI.ret (ub hl hH),rfl,rfl,rfl⟩⟩
      have d2:¬cK b=0:=di c2
      refine am (fun c3=> ?_) (fun c3=> ?_)
      · have d3:(l.length:Int)+cK b>16:=Ua hwr c3
        exact ⟨rfl,rfl, .inr ⟨_,_,iV l,hI.ret (rG hl (AX hI.1 (by omega))),rfl,rfl,rfl⟩⟩
      have d3:¬(l.length:Int)+cK b>16:=Ub hwr c3
      have h16:l.length+(cK b).toNat≤16:=by omega
      have hE:CW b=0:=GK d2
      have hH:lF b=true:=by unfold lF;rw [decide_eq_false d2,hC];rfl
      have hst:=hI.step hl hH h16 (bt 1 (aA 1 b 0) (aB 1 b 0) (bt 1 b 0 a))
      have hps:b9 (cK b).toNat (jp b,bt 1 (aA 1 b 0) (aB 1 b 0) (bt 1 b 0 a),0,l)=b9 (cK b).toNat S0:=by
        show b9 (cK b).toNat (jp b,bt 1 (aA 1 b 0) (aB 1 b 0) (bt 1 b 0 a),0,l)=b9 (cK b).toNat (jp b,bt 1 (aA 1 b 0) (aB 1 b 0) (bt 1 b 0 a),CW b,l)
        rw [hE]
      rw [hps] at hst
      obtain ⟨i1,i2,_⟩:=AY (cK b).toNat S0 (AW hb)
      have hlt:=vM hl
      refine ⟨rfl,⟨rfl,rfl,rfl,trivial,rfl,rfl,rfl⟩,rfl,rfl,b9 (cK b).toNat S0,⟨i1,hst⟩,Nat.lt_of_le_of_lt i2 hlt, .inr ⟨?_, ?_⟩⟩
      · exact K0 i1 _ _ _
      · have e2:=dd (aw 1) (aw 1) (b9 (cK b).toNat S0).2.2.2
        simp only [ar,TV.ren,e2,Tok.ren]
        rfl
  · refine b7 ac aa hS (A1 (b,a,e,l) hb 0 (Int.le_refl _) (show l.length+0≤1000 by have:=hI.1;omega)) (GJ b b b (iV l) (iV l) a e a e a e 0 _) ?_
    refine ⟨⟨rfl,hb⟩,aM (decide_eq_false hl) ⟨rfl,rfl, .inl ⟨iV l,b,a,e,⟨hb,l,rfl,hI.1, ?_⟩,rfl,rfl,rfl⟩⟩⟩
    rcases hI.2 with ⟨rfl,h2,h3⟩ | h
    · exact .inl ⟨rfl,h2,by rw [←h3];exact JX hl⟩
    · exact .inr h
theorem MX {b:Bs} (h:IsB b):dD Tryz.prog ae (T9 b (A0 b) (lU b=none) (aH Tryz.prog jn 0)):=bL fun p hp=>by
 obtain rfl:=List.mem_singleton.1 hp
 exact cA fun K hK=>JZ h K hK
theorem A2 {b:Bs} (h:lU b=none):TVle (.tup [.val (.slice none 0 0), .val (.bool false)]) (vL b):=by
 unfold vL rF CX
 rw [h]
 exact .tup ⟨.nil 1, .refl _,trivial⟩
theorem MY {b:Bs} {l:List Int} (h:lU b=some l) (tok:Tok):TVle (.tup [.vec 1 (iV l) tok, .val (.bool true)]) (vL b):=by
 unfold vL rF CX
 rw [h]
 exact .tup ⟨.vec 1 _ _, .refl _,trivial⟩
theorem PQ {b:Bs} (hb:IsB b):VCx Tryz.prog ae 0 jn [.vec 1 b .none] ⟨[], []⟩ fun x T' =>x=vL b∧T' =⟨[], []⟩:=by
 have hS:aZ Tryz.prog ae (aC [(lM,gD),(iu,kC),(GH,KY)]):=aJ fun p hp=>by
  rcases List.mem_cons.1 hp with rfl | hp;exact mE
  rcases List.mem_cons.1 hp with rfl | hp;exact o5
  obtain rfl:=List.mem_singleton.1 hp;exact PP
 refine VCx.toLe (Q:=fun T' =>T' =⟨[], []⟩) (VCx.keepQ 0 0 (Nat.le_refl _) (Nat.le_refl _) (ai ac aa hS (MX hb) (SV b (A0 b) (lU b=none) _) ?_))
 refine ⟨hb,rfl,⟨rfl,rfl,rfl,⟨rfl,trivial⟩,rfl,rfl,rfl⟩, ?_,fun rest tlz Lz hN=>⟨A2 hN,rfl⟩⟩
 rintro L bz az ez ⟨hbz,l,rfl,h16,hd⟩
 refine ⟨⟨rfl,hbz⟩, ?_⟩
 refine am (fun c1=> ?_) (fun c1=> ?_)
 ·have he:=dP c1
  refine ⟨⟨l,rfl,by omega⟩, ?_⟩
  rw [CZ]
  rcases hd with ⟨_,h2,h3⟩ | ⟨h2,h3⟩
  ·rw [decide_eq_false h2]
   refine ⟨?_,rfl⟩
   simp only [TV.ren,ar,dd]
   exact MY h3 _
  ·have h4:(0:Int)∈l:=by
    rcases h2 with h2 | h2
    ·exact absurd he h2
    ·exact h2
   rw [decide_eq_true h4]
   exact ⟨A2 h3,rfl⟩
 ·have he:=di c1
  rcases hd with ⟨h1,_,_⟩ | ⟨_,h3⟩
  ·exact absurd h1 he
  ·exact ⟨A2 h3,rfl⟩
end
section
open Go.RowKit

end
section
open Go.RowKit

abbrev A3:=118
abbrev uc:=162
def A4:aV:=fun _ ys T K=>match ys with
 | [.vec 1 v _, .val (.int .i64 0)]=>(IsB v∧q8 4 v)∧K (.tup [.val (.int .u32 (cj 4 v)), .val (.bool true)]) T
 | _=>False
def nj (a:Int):Bool:=av BinOp.neq (aP (Value.int IntKind.u32 a) (Value.int IntKind.u32 (0:Int)))&&(av BinOp.neq (aP (Value.int IntKind.u32 a) (Value.int IntKind.u32 (4294967295:Int)))&&(av BinOp.neq (aP (Value.int IntKind.u32 (Int.fdiv a ((2:Int)^min (Int.toNat (24:Int)) (IntKind.bits IntKind.u32)))) (Value.int IntKind.u32 (127:Int)))&&av BinOp.neq (aP (Value.int IntKind.u32 (Int.fdiv a ((2:Int)^min (Int.toNat (29:Int)) (IntKind.bits IntKind.u32)))) (Value.int IntKind.u32 (7:Int)))))
def oC (v:Bs):Bs:=iV (CX v)
def ue:aV:=fun _ ys T K=>match ys with
 | [.val (.int .u32 a)]=>K (.val (.bool (nj a))) T
 | _=>False
def A5:aV:=fun _ ys T K=>match ys with
 | [.vec 1 v _]=>IsB v∧K (.tup [.vec 1 (oC v) .none, .val (.bool (rF v))]) T
 | _=>False
def lV (o h m:Int) (hm:Bool) (x:TV):VO:= .cells [.val (.int .i64 o),x, .val (.int .u32 h), .val (.int .i64 m), .val (.bool hm)]
def jG (fl t:Int) (v:Bs):TV:= .agg [.val (.int .i64 fl), .val (.int .i64 t), .vec 1 v .none]
theorem PR (a:Int) (Q:TV→VT→Prop):au Tryz.prog ae br aT 300 aK 0 uc [.val (.int .u32 a)] aG Q=
 (bif av BinOp.neq (aP (Value.int IntKind.u32 a) (Value.int IntKind.u32 (0:Int)))
 then (bif av BinOp.neq (aP (Value.int IntKind.u32 a) (Value.int IntKind.u32 (4294967295:Int)))
 then (bif av BinOp.neq (aP (Value.int IntKind.u32 (Int.fdiv a ((2:Int)^min (Int.toNat (24:Int)) (IntKind.bits IntKind.u32)))) (Value.int IntKind.u32 (127:Int)))
 then Q (nY (av BinOp.neq (aP (Value.int IntKind.u32 (Int.fdiv a ((2:Int)^min (Int.toNat (29:Int)) (IntKind.bits IntKind.u32)))) (Value.int IntKind.u32 (7:Int))))) aG
 else Q aj aG)
 else Q aj aG)
 else Q aj aG):=by kernel_rfl
abbrev iP:VO:=(UA (.fn (.func 159) [] [(.ptr 2 0)]))
abbrev zg:VO:=(Jf (.fn (.func 158) [] [(.ptr 2 0)]))
abbrev zh:VO:=(Jd (.fn (.func 161) [] [(.ptr 2 0)]))
abbrev kx:VO:=(Uz (.fn (.func 163) [] [(.ptr 2 0)]))
theorem PS (o h m fl t:Int) (hm:Bool) (x:TV) (Q:TV→VT→Prop):au Tryz.prog ae (aC [(jn,A5),(sK,A4),(uc,ue)]) (bc [(999999, .dead,none)]) 300 aK 0 A3 [.ptr 0 0,jG fl t []] (dv (lV o h m hm x)) Q=
 (bif av BinOp.eql (k6 t (1:Int))
 then (bif av BinOp.neq (k6 (IntKind.wrap IntKind.i64 (↑(BitVec.toNat (BitVec.ofInt (IntKind.bits IntKind.i64) fl&&&~~~BitVec.ofInt (IntKind.bits IntKind.i64) (16:Int))):Int)) (64:Int))
 then Q na ⟨[(fH o x h m hm),(kU fl t),fI,zg,zg], []⟩
 else Q wQ ⟨[(fH o x h m hm),(kU fl t),fI,zg,zg], []⟩)
 else (bif av BinOp.eql (k6 t (2:Int))
 then (bif av BinOp.neq (k6 (IntKind.wrap IntKind.i64 (↑(BitVec.toNat (BitVec.ofInt (IntKind.bits IntKind.i64) fl&&&~~~BitVec.ofInt (IntKind.bits IntKind.i64) (16:Int))):Int)) (64:Int))
 then Q na ⟨[(fH o x h m hm),(kU fl t),fI,iP,iP], []⟩
 else (IsB []∧
 (bif !rF []
 then Q (.val (.int .i64 11)) ⟨[(fH o x h m hm),(kU fl t),fI,iP,iP], []⟩
 else Q aD ⟨[(wO o (oC []) h m hm),(kU fl t),fI,iP,iP], []⟩)))
 else (bif av BinOp.eql (k6 t (3:Int))
 then (bif av BinOp.neq (k6 (IntKind.wrap IntKind.i64 (↑(BitVec.toNat (BitVec.ofInt (IntKind.bits IntKind.i64) fl&&&~~~BitVec.ofInt (IntKind.bits IntKind.i64) (16:Int))):Int)) (64:Int))
 then Q na ⟨[(fH o x h m hm),(kU fl t),fI,zh,zh], []⟩
 else Q wQ ⟨[(fH o x h m hm),(kU fl t),fI,zh,zh], []⟩)
 else (bif av BinOp.eql (k6 t (4:Int))
 then (bif av BinOp.neq (k6 (IntKind.wrap IntKind.i64 (↑(BitVec.toNat (BitVec.ofInt (IntKind.bits IntKind.i64) fl&&&~~~BitVec.ofInt (IntKind.bits IntKind.i64) (16:Int))):Int)) (128:Int))
 then Q na ⟨[(fH o x h m hm),(kU fl t),fI,kx,kx], []⟩
 else Q wQ ⟨[(fH o x h m hm),(kU fl t),fI,kx,kx], []⟩)
 else (bif av BinOp.eql (k6 (IntKind.wrap IntKind.i64 (↑(BitVec.toNat (BitVec.ofInt (IntKind.bits IntKind.i64) fl&&&BitVec.ofInt (IntKind.bits IntKind.i64) (128:Int))):Int)) (0:Int))
 then Q du ⟨[(fH o x h m hm),(kU fl t),fI,(ri (.val .nilFunc)),(ri (.val .nilFunc))], []⟩
 else Q aD ⟨[(fH o x h m hm),(kU fl t),fI,(ri (.val .nilFunc)),(ri (.val .nilFunc))], []⟩))))):=by kernel_rfl
abbrev mj (fl:Int) (t:Int) (z:Int) (w:Bs):VO:=(ep fl t ([[(.val (.int .u8 (z)))]]++w))
abbrev EJ (z:Int) (x:TV) (h:Int) (m:Int) (hm:Bool) (fl:Int) (t:Int) (w:Bs):VT:=(O0 (IntKind.wrap IntKind.i64 z) x h m hm fl t ([[(.val (.int .u8 (z)))]]++w) (.fn (.func 158) [] [(.ptr 2 0)]) (.fn (.func 158) [] [(.ptr 2 0)]))
abbrev EK (o:Int) (x:TV) (z:Int) (w:Bs) (m:Int) (hm:Bool) (fl:Int) (t:Int):VT:=(OZ o x (cj (4:Int) (bT z::w)) m hm fl t ([[(.val (.int .u8 (z)))]]++w) (.fn (.func 161) [] [(.ptr 2 0)]) (.fn (.func 161) [] [(.ptr 2 0)]))
abbrev EL (o:Int) (x:TV) (h:Int) (m:Int) (hm:Bool) (fl:Int) (t:Int) (z:Int) (w:Bs):VT:=(O0 o x h m hm fl t ([[(.val (.int .u8 (z)))]]++w) (.fn (.func 158) [] [(.ptr 2 0)]) (.fn (.func 158) [] [(.ptr 2 0)]))
abbrev EM (o:Int) (x:TV) (h:Int) (m:Int) (hm:Bool) (fl:Int) (t:Int) (z:Int) (w:Bs):VT:=(OZ o x h m hm fl t ([[(.val (.int .u8 (z)))]]++w) (.fn (.func 161) [] [(.ptr 2 0)]) (.fn (.func 161) [] [(.ptr 2 0)]))
theorem PT (o h m fl t z:Int) (hm:Bool) (x:TV) (w:Bs) (Q:TV→VT→Prop):au Tryz.prog ae (aC [(jn,A5),(sK,A4),(uc,ue)]) (bc [(999999, .dead,none)]) 300 aK 0 A3 [.ptr 0 0,jG fl t (bT z::w)] (dv (lV o h m hm x)) Q=
 (bif av BinOp.eql (k6 t (1:Int))
 then (bif av BinOp.neq (k6 (IntKind.wrap IntKind.i64 (↑(BitVec.toNat (BitVec.ofInt (IntKind.bits IntKind.i64) fl&&&~~~BitVec.ofInt (IntKind.bits IntKind.i64) (16:Int))):Int)) (64:Int))
 then Q na (EL o x h m hm fl t z w)
 else (bif av BinOp.neq (k6 (↑(List.length (bT z::w)):Int) (1:Int))
 then Q wQ (EL o x h m hm fl t z w)
 else (bif decide (IntKind.wrap IntKind.i64 z>(2:Int))
 then Q Je (EJ z x h m hm fl t w)
 else Q aD (EJ z x h m hm fl t w))))
 else (bif av BinOp.eql (k6 t (2:Int))
 then (bif av BinOp.neq (k6 (IntKind.wrap IntKind.i64 (↑(BitVec.toNat (BitVec.ofInt (IntKind.bits IntKind.i64) fl&&&~~~BitVec.ofInt (IntKind.bits IntKind.i64) (16:Int))):Int)) (64:Int))
 then Q na ⟨[(fH o x h m hm),(mj fl t z w),fI,iP,iP], []⟩
 else (IsB ([(dK z)]++w)∧
 (bif !rF (bT z::w)
 then Q (.val (.int .i64 11)) ⟨[(fH o x h m hm),(mj fl t z w),fI,iP,iP], []⟩
 else Q aD ⟨[(wO o (oC (bT z::w)) h m hm),(mj fl t z w),fI,iP,iP], []⟩)))
 else (bif av BinOp.eql (k6 t (3:Int))
 then (bif av BinOp.neq (k6 (IntKind.wrap IntKind.i64 (↑(BitVec.toNat (BitVec.ofInt (IntKind.bits IntKind.i64) fl&&&~~~BitVec.ofInt (IntKind.bits IntKind.i64) (16:Int))):Int)) (64:Int))
 then Q na (EM o x h m hm fl t z w)
 else (bif av BinOp.neq (k6 (↑(List.length (bT z::w)):Int) (4:Int))
 then Q wQ (EM o x h m hm fl t z w)
 else ((IsB ([(dK z)]++w)∧
 q8 4 ([(dK z)]++w))∧
 (bif !nj (cj (4:Int) (bT z::w))
 then Q (.val (.int .i64 8)) (EK o x z w m hm fl t)
 else Q aD (EK o x z w m hm fl t)))))
 else (bif av BinOp.eql (k6 t (4:Int))
 then (bif av BinOp.neq (k6 (IntKind.wrap IntKind.i64 (↑(BitVec.toNat (BitVec.ofInt (IntKind.bits IntKind.i64) fl&&&~~~BitVec.ofInt (IntKind.bits IntKind.i64) (16:Int))):Int)) (128:Int))
 then Q na ⟨[(fH o x h m hm),(mj fl t z w),fI,kx,kx], []⟩
 else (bif av BinOp.neq (k6 (↑(List.length (bT z::w)):Int) (4:Int))
 then Q wQ ⟨[(fH o x h m hm),(mj fl t z w),fI,kx,kx], []⟩
 else ((IsB ([(dK z)]++w)∧
 q8 4 ([(dK z)]++w))∧
 Q aD ⟨[(.cells [(ak o),x,(ir h),(ak (IntKind.wrap IntKind.i64 (cj (4:Int) (bT z::w)))),ax]),(mj fl t z w),fI,kx,kx], []⟩)))
 else (bif av BinOp.eql (k6 (IntKind.wrap IntKind.i64 (↑(BitVec.toNat (BitVec.ofInt (IntKind.bits IntKind.i64) fl&&&BitVec.ofInt (IntKind.bits IntKind.i64) (128:Int))):Int)) (0:Int))
 then Q du ⟨[(fH o x h m hm),(mj fl t z w),fI,(ri (.val .nilFunc)),(ri (.val .nilFunc))], []⟩
 else Q aD ⟨[(fH o x h m hm),(mj fl t z w),fI,(ri (.val .nilFunc)),(ri (.val .nilFunc))], []⟩))))):=by kernel_rfl
end
section
open Go.RowKit

theorem C0 (a:Int):VCx Tryz.prog ae 0 uc [.val (.int .u32 a)] ⟨[], []⟩ fun x T' =>x= .val (.bool (nj a))∧T' =⟨[], []⟩:=by
 refine ai ac aa an ah (PR a _) ?_
 unfold nj
 refine am (fun c1=> ?_) (fun c1=> ?_)
 ·refine am (fun c2=> ?_) (fun c2=> ?_)
  ·refine am (fun c3=> ?_) (fun c3=> ?_)
   ·rw [c1,c2,c3,Bool.true_and,Bool.true_and,Bool.true_and];exact ⟨rfl,rfl⟩
   ·rw [c1,c2,c3,Bool.true_and,Bool.true_and,Bool.false_and];exact ⟨rfl,rfl⟩
  ·rw [c1,c2,Bool.true_and,Bool.false_and];exact ⟨rfl,rfl⟩
 ·rw [c1,Bool.false_and];exact ⟨rfl,rfl⟩
theorem C1 {f:FuncId} (h:∀a,VCx Tryz.prog ae 0 f [.val (.int .u32 a)] ⟨[], []⟩ fun x T' =>x= .val (.bool (nj a))∧T' =⟨[], []⟩):∀ro ys T K,ue ro ys T K→VCx Tryz.prog ae ro f ys T K:=by
 intro ro ys T K hw
 unfold ue at hw
 split at hw
 ·exact VCx.liftPure aq (h _) rfl (fun _ _=>rfl) hw
 ·exact hw.elim
theorem MZ (b:Bs) (f g:Nat→Option Nat):(vL b).ren f g=vL b:=by
 simp only [vL,TV.ren,ar,dd,Tok.ren]
theorem M0 {f:FuncId} (h:∀b,IsB b→VCx Tryz.prog ae 0 f [.vec 1 b .none] ⟨[], []⟩ fun x T' =>x=vL b∧T' =⟨[], []⟩):∀ro ys T K,A5 ro ys T K→VCx Tryz.prog ae ro f ys T K:=by
 intro ro ys T K hw
 unfold A5 at hw
 split at hw
 ·rename_i v tok
  exact VCx.loosePure aq (h v hw.1) (by simp [bG]) (by simp [ar,TV.ren,hw.1.ren,Tok.ren]) (fun f h=>MZ v f h) hw.2
 ·exact hw.elim
theorem M1 {v:Bs} (hv:IsB v) (hl:q8 4 v):VCx Tryz.prog ae 0 sK [.vec 1 v .none, .val (.int .i64 0)] ⟨[], []⟩ fun x T' =>x= .tup [.val (.int .u32 (cj 4 v)), .val (.bool true)]∧T' =⟨[], []⟩:=by
 have hs:=hv.small
 have hl2:(4:Int)≤v.length:=hl
 refine ai ac aa (aJ fun p hp=>by obtain rfl:=List.mem_singleton.1 hp;exact wW) ah (Mm v _) ?_
 rw [bP (z:=(v.length:Int)-4) (by omega) (by omega)]
 have hg:0≤cj 4 v∧cj 4 v<4294967296:=by
  obtain ⟨⟨l,hl3,hz⟩,_⟩:=hv.take 4
  have hlen:l.length=4:=by
   have:=congrArg List.length hl3
   simp only [bV,List.length_map,List.length_take] at this
   omega
  have h:=qY hz
  rw [hlen] at h
  unfold cj
  rw [show (4:Int).toNat=4 from rfl,hl3]
  exact ⟨h.1,Int.lt_of_lt_of_le h.2 (by decide)⟩
 have hw:IntKind.wrap .u32 (cj 4 v)=cj 4 v:=by
  generalize cj 4 v=y at hg
  simp only [IntKind.wrap,IntKind.bits,IntKind.signed];simp;omega
 refine aM (by rw [decide_eq_true (show (0:Int)≤(v.length:Int)-4 by omega)];rfl) ⟨?_,⟨hv,⟨by decide,by decide⟩,hl⟩,by rw [hw],rfl⟩
 have h:=rl (x:= .tmp 10) (i:= .tmp 11) (l:= [(10, .vec 1 v .none),(11, .val (.int .i64 0))]) (b:=v) (tok:= .none) (k:= .i64) (z:=0) (n:=0) rfl rfl (Int.le_refl _) rfl (Nat.zero_le _)
 rwa [List.drop_zero] at h
theorem M3:∀ro ys T K,A4 ro ys T K→VCx Tryz.prog ae ro sK ys T K:=by
 intro ro ys T K hw
 unfold A4 at hw
 split at hw
 ·rename_i v tok
  obtain ⟨⟨hv,hl⟩,hk⟩:=hw
  exact VCx.loosePure aq (M1 hv hl) (by simp [bG]) (by simp [ar,TV.ren,hv.ren,Tok.ren]) (fun f h=>rfl) hk
 ·exact hw.elim
end
section
open Go.RowKit

def ic (fl:Int):Int:=IntKind.wrap IntKind.i64 (BitVec.toNat (BitVec.ofInt (IntKind.bits IntKind.i64) fl&&&~~~BitVec.ofInt (IntKind.bits IntKind.i64) (16:Int)):Nat)
def GR (fl:Int):Bool:=av BinOp.eql (aP (Value.int IntKind.i64 (IntKind.wrap IntKind.i64 (BitVec.toNat (BitVec.ofInt (IntKind.bits IntKind.i64) fl&&&BitVec.ofInt (IntKind.bits IntKind.i64) (128:Int)):Nat))) (Value.int IntKind.i64 (0:Int)))
def ct (fl t:Int) (v:Bs):Int:=
 if t=1 then (if ¬ic fl=64 then 4 else if ¬(v.length:Int)=1 then 5 else if cj 1 v>2 then 6 else 0)
 else if t=2 then (if ¬ic fl=64 then 4 else bif rF v then 0 else 11)
 else if t=3 then (if ¬ic fl=64 then 4 else if ¬(v.length:Int)=4 then 5 else bif nj (cj 4 v) then 0 else 8)
 else if t=4 then (if ¬ic fl=128 then 4 else if ¬(v.length:Int)=4 then 5 else 0)
 else bif GR fl then 2 else 0
def lW (o h m:Int) (hm:Bool) (x:TV) (t:Int) (v:Bs):VO:=
 if t=1 then lV (cj 1 v) h m hm x else if t=2 then lV o h m hm (.vec 1 (oC v) .none) else if t=3 then lV o (cj 4 v) m hm x else if t=4 then lV o h (cj 4 v) true x else lV o h m hm x
def vN (o h m:Int) (hm:Bool) (x:TV) (fl t:Int) (v:Bs) (y:TV) (T' :VT):Prop:=y= .val (.int .i64 (ct fl t v))∧∃O,T' =⟨[O], []⟩∧(ct fl t v=0→O=lW o h m hm x t v)
section
variable {o h m fl t s:Int} {hm:Bool} {x:TV} {v:Bs} {O:VO} {l:List VO}
theorem dh (hs:ct fl t v=s) (hne:¬s=0):vN o h m hm x fl t v (.val (.int .i64 s)) (VT.keep ⟨O::l, []⟩ 1 0):=⟨by rw [hs],_,rfl,fun h=>absurd (hs.symm.trans h) hne⟩
theorem kZ (hs:ct fl t v=0) (hO:O=lW o h m hm x t v) (hr:O.ren (aw 1) (aw 0)=O):vN o h m hm x fl t v (.val (.int .i64 0)) (VT.keep ⟨O::l, []⟩ 1 0):=⟨by rw [hs],_,rfl,fun _=>by rw [←hO];exact hr⟩
end
theorem dU {o h m:Int} {hm:Bool} {x:TV} (hx:∀f g,x.ren f g=x) (f g:Nat→Option Nat):(lV o h m hm x).ren f g=lV o h m hm x:=by
 simp only [lV,VO.ren,ar,TV.ren,hx]
theorem uf (v:Bs) (f g:Nat→Option Nat):(TV.vec 1 (oC v) .none).ren f g= .vec 1 (oC v) .none:=by
 simp only [TV.ren,oC,dd,Tok.ren]
theorem UM {v:Bs} (hv:IsB v) (hl:(v.length:Int)=4):0≤cj 4 v∧cj 4 v<4294967296:=by
 obtain ⟨⟨l,hl3,hz⟩,_⟩:=hv.take 4
 have hlen:l.length=4:=by
  have:=congrArg List.length hl3
  simp only [bV,List.length_map,List.length_take] at this
  omega
 have h:=qY hz
 rw [hlen] at h
 unfold cj
 rw [show (4:Int).toNat=4 from rfl,hl3]
 exact ⟨h.1,Int.lt_of_lt_of_le h.2 (by decide)⟩
theorem UN (z:Int) (w:Bs):cj 1 (bT z::w)=z:=by
 show (0:Int)*256+z=z
 omega
theorem K1:aZ Tryz.prog ae (aC [(jn,A5),(sK,A4),(uc,ue)]):=aJ fun p hp=>by
 rcases List.mem_cons.1 hp with rfl | hp;exact M0 fun _ h=>PQ h
 rcases List.mem_cons.1 hp with rfl | hp;exact M3
 obtain rfl:=List.mem_singleton.1 hp;exact C1 C0
theorem M4 (o h m fl t:Int) (hm:Bool) {x:TV} (hx:∀f g,x.ren f g=x) {v:Bs} (hv:IsB v):VCx Tryz.prog ae 0 A3 [.ptr 0 0,jG fl t v] ⟨[lV o h m hm x], []⟩ (vN o h m hm x fl t v):=by
 refine VCx.keepQ 1 0 (Nat.le_refl _) (Nat.le_refl _) ?_
 cases v with
 | nil=>
  refine ai ac aa K1 ah (PS o h m fl t hm x _) ?_
  refine am (fun a1=> ?_) (fun a1=> ?_)
  ·replace a1:=dP a1
   refine am (fun f1=> ?_) (fun f1=> ?_)
   ·exact dh (by unfold ct;rw [if_pos a1,if_pos (show ¬ic fl=64 from eM f1)]) (by decide)
   replace f1:ic fl=64:=eO f1
   exact dh (by unfold ct;rw [if_pos a1,if_neg (fun c=>c f1),if_pos (by decide)]) (by decide)
  replace a1:=di a1
  refine am (fun a2=> ?_) (fun a2=> ?_)
  ·replace a2:=dP a2
   refine am (fun f1=> ?_) (fun f1=> ?_)
   ·exact dh (by unfold ct;rw [if_neg a1,if_pos a2,if_pos (show ¬ic fl=64 from eM f1)]) (by decide)
   replace f1:ic fl=64:=eO f1
   refine ⟨hv, ?_⟩
   cases hh:rF []
   ·exact dh (by unfold ct;rw [if_neg a1,if_pos a2,if_neg (fun c=>c f1),hh];rfl) (by decide)
   ·exact kZ (by unfold ct;rw [if_neg a1,if_pos a2,if_neg (fun c=>c f1),hh];rfl) (by unfold lW;rw [if_neg a1,if_pos a2];rfl) (dU (uf _) _ _)
  replace a2:=di a2
  refine am (fun a3=> ?_) (fun a3=> ?_)
  ·replace a3:=dP a3
   refine am (fun f1=> ?_) (fun f1=> ?_)
   ·exact dh (by unfold ct;rw [if_neg a1,if_neg a2,if_pos a3,if_pos (show ¬ic fl=64 from eM f1)]) (by decide)
   replace f1:ic fl=64:=eO f1
   exact dh (by unfold ct;rw [if_neg a1,if_neg a2,if_pos a3,if_neg (fun c=>c f1),if_pos (by decide)]) (by decide)
  replace a3:=di a3
  refine am (fun a4=> ?_) (fun a4=> ?_)
  ·replace a4:=dP a4
   refine am (fun f1=> ?_) (fun f1=> ?_)
   ·exact dh (by unfold ct;rw [if_neg a1,if_neg a2,if_neg a3,if_pos a4,if_pos (show ¬ic fl=128 from eM f1)]) (by decide)
   replace f1:ic fl=128:=eO f1
   exact dh (by unfold ct;rw [if_neg a1,if_neg a2,if_neg a3,if_pos a4,if_neg (fun c=>c f1),if_pos (by decide)]) (by decide)
  replace a4:=di a4
  refine am (fun a5=> ?_) (fun a5=> ?_)
  ·exact dh (by unfold ct;rw [if_neg a1,if_neg a2,if_neg a3,if_neg a4,show GR fl=true from a5];rfl) (by decide)
  ·exact kZ (by unfold ct;rw [if_neg a1,if_neg a2,if_neg a3,if_neg a4,show GR fl=false from a5];rfl) (by unfold lW;rw [if_neg a1,if_neg a2,if_neg a3,if_neg a4];rfl) (dU hx _ _)
 | cons r w=>
  obtain ⟨z,rfl,hz0,hz1⟩:=hv.at (j:=0) (r:=r) rfl
  refine ai ac aa K1 ah (PT o h m fl t z hm x w _) ?_
  refine am (fun a1=> ?_) (fun a1=> ?_)
  ·replace a1:=dP a1
   refine am (fun f1=> ?_) (fun f1=> ?_)
   ·exact dh (by unfold ct;rw [if_pos a1,if_pos (show ¬ic fl=64 from eM f1)]) (by decide)
   replace f1:ic fl=64:=eO f1
   refine am (fun b1=> ?_) (fun b1=> ?_)
   ·exact dh (by unfold ct;rw [if_pos a1,if_neg (fun c=>c f1),if_pos (show ¬(((bT z::w).length:Nat):Int)=1 from eM b1)]) (by decide)
   have g1:(((bT z::w).length:Nat):Int)=1:=eO b1
   have hz:z=cj 1 (bT z::w):=(UN z w).symm
   have hwz:IntKind.wrap .i64 z=z:=bP (by omega) (by omega)
   try delta iP kx mj EJ EK EL EM
   rw [hwz]
   refine am (fun b2=> ?_) (fun b2=> ?_)
   ·exact dh (by unfold ct;rw [if_pos a1,if_neg (fun c=>c f1),if_neg (fun c=>c g1),if_pos (by rw [←hz];exact of_decide_eq_true b2)]) (by decide)
   ·exact kZ (by unfold ct;rw [if_pos a1,if_neg (fun c=>c f1),if_neg (fun c=>c g1),if_neg (by rw [←hz];exact of_decide_eq_false b2)]) (by unfold lW;rw [if_pos a1,←hz];rfl) (dU hx _ _)
  replace a1:=di a1
  refine am (fun a2=> ?_) (fun a2=> ?_)
  ·replace a2:=dP a2
   refine am (fun f1=> ?_) (fun f1=> ?_)
   ·exact dh (by unfold ct;rw [if_neg a1,if_pos a2,if_pos (show ¬ic fl=64 from eM f1)]) (by decide)
   replace f1:ic fl=64:=eO f1
   refine ⟨hv, ?_⟩
   cases hh:rF (bT z::w)
   ·exact dh (by unfold ct;rw [if_neg a1,if_pos a2,if_neg (fun c=>c f1),hh];rfl) (by decide)
   ·exact kZ (by unfold ct;rw [if_neg a1,if_pos a2,if_neg (fun c=>c f1),hh];rfl) (by unfold lW;rw [if_neg a1,if_pos a2];rfl) (dU (uf _) _ _)
  replace a2:=di a2
  refine am (fun a3=> ?_) (fun a3=> ?_)
  ·replace a3:=dP a3
   refine am (fun f1=> ?_) (fun f1=> ?_)
   ·exact dh (by unfold ct;rw [if_neg a1,if_neg a2,if_pos a3,if_pos (show ¬ic fl=64 from eM f1)]) (by decide)
   replace f1:ic fl=64:=eO f1
   refine am (fun b1=> ?_) (fun b1=> ?_)
   ·exact dh (by unfold ct;rw [if_neg a1,if_neg a2,if_pos a3,if_neg (fun c=>c f1),if_pos (show ¬(((bT z::w).length:Nat):Int)=4 from eM b1)]) (by decide)
   have g1:(((bT z::w).length:Nat):Int)=4:=eO b1
   refine ⟨⟨hv,show (4:Int)≤(((bT z::w).length:Nat):Int) from by omega⟩, ?_⟩
   cases hh:nj (cj 4 (bT z::w))
   ·exact dh (by unfold ct;rw [if_neg a1,if_neg a2,if_pos a3,if_neg (fun c=>c f1),if_neg (fun c=>c g1),hh];rfl) (by decide)
   ·exact kZ (by unfold ct;rw [if_neg a1,if_neg a2,if_pos a3,if_neg (fun c=>c f1),if_neg (fun c=>c g1),hh];rfl) (by unfold lW;rw [if_neg a1,if_neg a2,if_pos a3];rfl) (dU hx _ _)
  replace a3:=di a3
  refine am (fun a4=> ?_) (fun a4=> ?_)
  ·replace a4:=dP a4
   refine am (fun f1=> ?_) (fun f1=> ?_)
   ·exact dh (by unfold ct;rw [if_neg a1,if_neg a2,if_neg a3,if_pos a4,if_pos (show ¬ic fl=128 from eM f1)]) (by decide)
   replace f1:ic fl=128:=eO f1
   refine am (fun b1=> ?_) (fun b1=> ?_)
   ·exact dh (by unfold ct;rw [if_neg a1,if_neg a2,if_neg a3,if_pos a4,if_neg (fun c=>c f1),if_pos (show ¬(((bT z::w).length:Nat):Int)=4 from eM b1)]) (by decide)
   have g1:(((bT z::w).length:Nat):Int)=4:=eO b1
   refine ⟨⟨hv,show (4:Int)≤(((bT z::w).length:Nat):Int) from by omega⟩, ?_⟩
   obtain ⟨e1,e2⟩:=UM hv g1
   have hw4:IntKind.wrap .i64 (cj 4 (bT z::w))=cj 4 (bT z::w):=bP (by omega) (by omega)
   rw [hw4]
   exact kZ (by unfold ct;rw [if_neg a1,if_neg a2,if_neg a3,if_pos a4,if_neg (fun c=>c f1),if_neg (fun c=>c g1)]) (by unfold lW;rw [if_neg a1,if_neg a2,if_neg a3,if_pos a4];rfl) (dU hx _ _)
  replace a4:=di a4
  refine am (fun a5=> ?_) (fun a5=> ?_)
  ·exact dh (by unfold ct;rw [if_neg a1,if_neg a2,if_neg a3,if_neg a4,show GR fl=true from a5];rfl) (by decide)
  ·exact kZ (by unfold ct;rw [if_neg a1,if_neg a2,if_neg a3,if_neg a4,show GR fl=false from a5];rfl) (by unfold lW;rw [if_neg a1,if_neg a2,if_neg a3,if_neg a4];rfl) (dU hx _ _)
end
section
open Go.RowKit

end
section
open Go.RowKit

section
variable {P:Program} {G:aU}
theorem Cl {ro:Nat} {T:VT} {t e tx:TypeId} {s x:Operand} {l:List (Nat × TV)} {inf:TypeInfo} {z:Value} {q0:List TV} {qs:List (List TV)} {tok:Tok} {id n:Nat} {cs:List TV} (ht:P.underlying t=some (.slice e)) (hi:P.info? e=some inf) (hz:inf.zero=some z) (hzs:z.cells.size=inf.size) (hz1:z.cells.toList.all Value.oneCell' =true)
  (hsl:fT (P.underlying tx)=true) (hs:aS G l s= .row inf.size id 0 n) (ho:T.objs[id]?=some (.row cs)) (hro:ro≤id) (hn:n*inf.size≤cs.length) (hx:aS G l x= .vec inf.size (q0::qs) tok) (hb:(n+(q0::qs).length)*(inf.bytes+1)≤140737488355328):
  ba P G ro T (.call ⟨.builtin .append, #[s,x], #[t,tx]⟩) l (.row inf.size T.objs.length 0 (n+(q0::qs).length)) ((T.kill id).newRow (cs.take (n*inf.size)++(q0::qs).flatten)):=by
 refine .mk ?_
 have h1:bm P (.call ⟨.builtin .append, #[s,x], #[t,tx]⟩) (aS G l)=none:=by simp [bm,dI]
 have h2:bh P T (.call ⟨.builtin .append, #[s,x], #[t,tx]⟩) (aS G l)=none:=by simp [bh,dj,j6]
 have hr:bQ T inf.size (.vec inf.size (q0::qs) tok)=some (q0::qs):=by simp [bQ,Nat.beq_refl]
 have h4:mf P T t tx (.row inf.size id 0 n) (.vec inf.size (q0::qs) tok)=none:=by simp [mf,ht]
 have h3:me P ro T t tx (.row inf.size id 0 n) (.vec inf.size (q0::qs) tok)=some (.row inf.size T.objs.length 0 (n+(q0::qs).length),(T.kill id).newRow (cs.take (n*inf.size)++(q0::qs).flatten)):=by
  unfold me
  simp only [ht,hi,hz,hr,hzs,decide_true,hz1,hsl,Bool.and_self,cond_true,Nat.beq_refl,ho,Nat.ble_eq_true_of_le hro,Nat.ble_eq_true_of_le hn,Nat.ble_eq_true_of_le hb]
 have h5:sC P ro T t tx (.row inf.size id 0 n) (.vec inf.size (q0::qs) tok)=none:=rfl
 simp only [fX,h1,h2,j8,hs,hx,hsl,h4,h5,h3,cond_true]
end
end
section
open Go.RowKit

abbrev oD:=119
def SX (W:List TV) (T:VT):VT:=(T.kill (T.objs.length-1)).newRow ((match T.objs[T.objs.length-1]? with
 | some (.row cs)=>cs
 | _=> [])++W)
abbrev oa (fl:Int) (t:Int):VO:=(Ax (IntKind.wrap IntKind.u8 (Int.fdiv (IntKind.wrap IntKind.u64 fl) ((2:Int)^min (Int.toNat (IntKind.wrap IntKind.i64 ((8:Int)*IntKind.wrap IntKind.i64 ((1:Int)-(1:Int))))) (IntKind.bits IntKind.u64)))) (IntKind.wrap IntKind.u8 (Int.fdiv (IntKind.wrap IntKind.u64 t) ((2:Int)^min (Int.toNat (IntKind.wrap IntKind.i64 ((8:Int)*IntKind.wrap IntKind.i64 ((1:Int)-(1:Int))))) (IntKind.bits IntKind.u64)))))
abbrev zi (t:Int):TV:=(bH (IntKind.wrap IntKind.u8 (Int.fdiv (IntKind.wrap IntKind.u64 t) ((2:Int)^min (Int.toNat (IntKind.wrap IntKind.i64 ((8:Int)*IntKind.wrap IntKind.i64 ((1:Int)-(1:Int))))) (IntKind.bits IntKind.u64)))))
abbrev oc (fl:Int):VO:=(Uy (IntKind.wrap IntKind.u8 (Int.fdiv (IntKind.wrap IntKind.u64 fl) ((2:Int)^min (Int.toNat (IntKind.wrap IntKind.i64 ((8:Int)*IntKind.wrap IntKind.i64 ((1:Int)-(1:Int))))) (IntKind.bits IntKind.u64)))))
abbrev zj (fl:Int):TV:=(bH (IntKind.wrap IntKind.u8 (Int.fdiv (IntKind.wrap IntKind.u64 fl) ((2:Int)^min (Int.toNat (IntKind.wrap IntKind.i64 ((8:Int)*IntKind.wrap IntKind.i64 ((1:Int)-(1:Int))))) (IntKind.bits IntKind.u64)))))
theorem M5 (fl t:Int) (Q:TV→VT→Prop):au Tryz.prog ae br (bc [(999999, .dead,none)]) 300 aK 0 oD [jG fl t []] aG Q=
 (bif av BinOp.neq (k6 (IntKind.wrap IntKind.i64 (↑(BitVec.toNat (BitVec.ofInt (IntKind.bits IntKind.i64) fl&&&BitVec.ofInt (IntKind.bits IntKind.i64) (16:Int))):Int)) (0:Int))
 then Q (.row 1 7 0 4) ⟨[(kU fl t), .gone,(oc fl), .gone,(oa fl t), .gone, .gone,(.row [(zj fl),(zi t),fP,fP])], []⟩
 else Q (.row 1 6 0 3) ⟨[(kU fl t), .gone,(oc fl), .gone,(oa fl t), .gone,(.row [(zj fl),(zi t),fP])], []⟩):=by kernel_rfl
theorem PU (fl t:Int) (v w:Bs) (W:List TV) (K N:Nat) (Q:TV→VT→Prop):au Tryz.prog ae br (bc [(999999, .dead,none),(33, .vec 1 w .none,none),(34, .row 1 K 0 N,some (SX W))]) 300 aK 0 oD [jG fl t v] aG Q=
 (bif av BinOp.neq (k6 (IntKind.wrap IntKind.i64 (↑(BitVec.toNat (BitVec.ofInt (IntKind.bits IntKind.i64) fl&&&BitVec.ofInt (IntKind.bits IntKind.i64) (16:Int))):Int)) (0:Int))
 then (bo Tryz.prog (fun _=> .none) (.slice 22 (.tmp 31) .none (.some (.tmp 32)) .none) [(31,(aI v)),(32,(ak (if (65535:Int)<(↑(List.length v):Int) then (65535:Int) else (↑(List.length v):Int))))] (aI w)∧
 (ba Tryz.prog (fun _=> .none) 0 ⟨[(ep fl t v), .gone,(oc fl), .gone,(oa fl t), .gone, .gone,(.row [(zj fl),(zi t),(bH (IntKind.wrap IntKind.u8 (Int.fdiv (IntKind.wrap IntKind.u64 (if (65535:Int)<(↑(List.length v):Int) then (65535:Int) else (↑(List.length v):Int))) ((2:Int)^min (Int.toNat (IntKind.wrap IntKind.i64 ((8:Int)*IntKind.wrap IntKind.i64 ((2:Int)-(1:Int))))) (IntKind.bits IntKind.u64))))),(bH (IntKind.wrap IntKind.u8 (Int.fdiv (IntKind.wrap IntKind.u64 (if (65535:Int)<(↑(List.length v):Int) then (65535:Int) else (↑(List.length v):Int))) ((2:Int)^min (Int.toNat (IntKind.wrap IntKind.i64 ((8:Int)*IntKind.wrap IntKind.i64 (IntKind.wrap IntKind.i64 ((2:Int)-(1:Int))-(1:Int))))) (IntKind.bits IntKind.u64)))))])], []⟩ (.call ⟨(.builtin .append), #[(.tmp 29),(.tmp 33)], #[22,22]⟩) [(29,(.row 1 7 0 4)),(33,(aI w))] (.row 1 K 0 N) ⟨[(ep fl t v), .gone,(oc fl), .gone,(oa fl t), .gone, .gone, .gone,(.row ([(.val (.int .u8 (IntKind.wrap IntKind.u8 (Int.fdiv (IntKind.wrap IntKind.u64 fl) ((2:Int)^min (Int.toNat (IntKind.wrap IntKind.i64 ((8:Int)*IntKind.wrap IntKind.i64 ((1:Int)-(1:Int))))) (IntKind.bits IntKind.u64)))))),(.val (.int .u8 (IntKind.wrap IntKind.u8 (Int.fdiv (IntKind.wrap IntKind.u64 t) ((2:Int)^min (Int.toNat (IntKind.wrap IntKind.i64 ((8:Int)*IntKind.wrap IntKind.i64 ((1:Int)-(1:Int))))) (IntKind.bits IntKind.u64)))))),(.val (.int .u8 (IntKind.wrap IntKind.u8 (Int.fdiv (IntKind.wrap IntKind.u64 (if (65535:Int)<(↑(List.length v):Int) then (65535:Int) else (↑(List.length v):Int))) ((2:Int)^min (Int.toNat (IntKind.wrap IntKind.i64 ((8:Int)*IntKind.wrap IntKind.i64 ((2:Int)-(1:Int))))) (IntKind.bits IntKind.u64)))))),(.val (.int .u8 (IntKind.wrap IntKind.u8 (Int.fdiv (IntKind.wrap IntKind.u64 (if (65535:Int)<(↑(List.length v):Int) then (65535:Int) else (↑(List.length v):Int))) ((2:Int)^min (Int.toNat (IntKind.wrap IntKind.i64 ((8:Int)*IntKind.wrap IntKind.i64 (IntKind.wrap IntKind.i64 ((2:Int)-(1:Int))-(1:Int))))) (IntKind.bits IntKind.u64))))))]++W))], []⟩∧
 Q (.row 1 K 0 N) ⟨[(ep fl t v), .gone,(oc fl), .gone,(oa fl t), .gone, .gone, .gone,(.row ([(.val (.int .u8 (IntKind.wrap IntKind.u8 (Int.fdiv (IntKind.wrap IntKind.u64 fl) ((2:Int)^min (Int.toNat (IntKind.wrap IntKind.i64 ((8:Int)*IntKind.wrap IntKind.i64 ((1:Int)-(1:Int))))) (IntKind.bits IntKind.u64)))))),(.val (.int .u8 (IntKind.wrap IntKind.u8 (Int.fdiv (IntKind.wrap IntKind.u64 t) ((2:Int)^min (Int.toNat (IntKind.wrap IntKind.i64 ((8:Int)*IntKind.wrap IntKind.i64 ((1:Int)-(1:Int))))) (IntKind.bits IntKind.u64)))))),(.val (.int .u8 (IntKind.wrap IntKind.u8 (Int.fdiv (IntKind.wrap IntKind.u64 (if (65535:Int)<(↑(List.length v):Int) then (65535:Int) else (↑(List.length v):Int))) ((2:Int)^min (Int.toNat (IntKind.wrap IntKind.i64 ((8:Int)*IntKind.wrap IntKind.i64 ((2:Int)-(1:Int))))) (IntKind.bits IntKind.u64)))))),(.val (.int .u8 (IntKind.wrap IntKind.u8 (Int.fdiv (IntKind.wrap IntKind.u64 (if (65535:Int)<(↑(List.length v):Int) then (65535:Int) else (↑(List.length v):Int))) ((2:Int)^min (Int.toNat (IntKind.wrap IntKind.i64 ((8:Int)*IntKind.wrap IntKind.i64 (IntKind.wrap IntKind.i64 ((2:Int)-(1:Int))-(1:Int))))) (IntKind.bits IntKind.u64))))))]++W))], []⟩))
 else (bo Tryz.prog (fun _=> .none) (.slice 22 (.tmp 31) .none (.some (.tmp 32)) .none) [(31,(aI v)),(32,(ak (if (255:Int)<(↑(List.length v):Int) then (255:Int) else (↑(List.length v):Int))))] (aI w)∧
 (ba Tryz.prog (fun _=> .none) 0 ⟨[(ep fl t v), .gone,(oc fl), .gone,(oa fl t), .gone,(.row [(zj fl),(zi t),(bH (IntKind.wrap IntKind.u8 (Int.fdiv (IntKind.wrap IntKind.u64 (if (255:Int)<(↑(List.length v):Int) then (255:Int) else (↑(List.length v):Int))) ((2:Int)^min (Int.toNat (IntKind.wrap IntKind.i64 ((8:Int)*IntKind.wrap IntKind.i64 ((1:Int)-(1:Int))))) (IntKind.bits IntKind.u64)))))])], []⟩ (.call ⟨(.builtin .append), #[(.tmp 29),(.tmp 33)], #[22,22]⟩) [(29,(.row 1 6 0 3)),(33,(aI w))] (.row 1 K 0 N) ⟨[(ep fl t v), .gone,(oc fl), .gone,(oa fl t), .gone, .gone,(.row ([(.val (.int .u8 (IntKind.wrap IntKind.u8 (Int.fdiv (IntKind.wrap IntKind.u64 fl) ((2:Int)^min (Int.toNat (IntKind.wrap IntKind.i64 ((8:Int)*IntKind.wrap IntKind.i64 ((1:Int)-(1:Int))))) (IntKind.bits IntKind.u64)))))),(.val (.int .u8 (IntKind.wrap IntKind.u8 (Int.fdiv (IntKind.wrap IntKind.u64 t) ((2:Int)^min (Int.toNat (IntKind.wrap IntKind.i64 ((8:Int)*IntKind.wrap IntKind.i64 ((1:Int)-(1:Int))))) (IntKind.bits IntKind.u64)))))),(.val (.int .u8 (IntKind.wrap IntKind.u8 (Int.fdiv (IntKind.wrap IntKind.u64 (if (255:Int)<(↑(List.length v):Int) then (255:Int) else (↑(List.length v):Int))) ((2:Int)^min (Int.toNat (IntKind.wrap IntKind.i64 ((8:Int)*IntKind.wrap IntKind.i64 ((1:Int)-(1:Int))))) (IntKind.bits IntKind.u64))))))]++W))], []⟩∧
 Q (.row 1 K 0 N) ⟨[(ep fl t v), .gone,(oc fl), .gone,(oa fl t), .gone, .gone,(.row ([(.val (.int .u8 (IntKind.wrap IntKind.u8 (Int.fdiv (IntKind.wrap IntKind.u64 fl) ((2:Int)^min (Int.toNat (IntKind.wrap IntKind.i64 ((8:Int)*IntKind.wrap IntKind.i64 ((1:Int)-(1:Int))))) (IntKind.bits IntKind.u64)))))),(.val (.int .u8 (IntKind.wrap IntKind.u8 (Int.fdiv (IntKind.wrap IntKind.u64 t) ((2:Int)^min (Int.toNat (IntKind.wrap IntKind.i64 ((8:Int)*IntKind.wrap IntKind.i64 ((1:Int)-(1:Int))))) (IntKind.bits IntKind.u64)))))),(.val (.int .u8 (IntKind.wrap IntKind.u8 (Int.fdiv (IntKind.wrap IntKind.u64 (if (255:Int)<(↑(List.length v):Int) then (255:Int) else (↑(List.length v):Int))) ((2:Int)^min (Int.toNat (IntKind.wrap IntKind.i64 ((8:Int)*IntKind.wrap IntKind.i64 ((1:Int)-(1:Int))))) (IntKind.bits IntKind.u64))))))]++W))], []⟩))):=by kernel_rfl
end
section
open Go.RowKit

def bz (z:Int) (m:Nat):Int:=IntKind.wrap .u8 (Int.fdiv (IntKind.wrap .u64 z) ((2:Int)^m))
def er (fl:Int) (v:Bs):Int:=bif kw fl then (if (65535:Int)<(v.length:Int) then 65535 else v.length) else (if (255:Int)<(v.length:Int) then 255 else v.length)
def yq (fl t n:Int):Bs:=bif kw fl then [bT (bz fl 0),bT (bz t 0),bT (bz n 8),bT (bz n 0)] else [bT (bz fl 0),bT (bz t 0),bT (bz n 0)]
def cS (fl t:Int) (v:Bs):Bs:=yq fl t (er fl v)++v.take (er fl v).toNat
theorem SY (z:Int):0≤IntKind.wrap .u8 z∧IntKind.wrap .u8 z<256:=by
 simp only [IntKind.wrap,IntKind.bits,IntKind.signed];simp;omega
theorem pX (z:Int) (m:Nat):0≤bz z m∧bz z m<256:=SY _
theorem GS (fl:Int) (v:Bs):0≤er fl v∧(er fl v).toNat≤v.length:=by
 unfold er
 cases kw fl<;>simp only [cond_true,cond_false]<;>split<;>omega
theorem nk {fl t:Int} {v:Bs} (hv:IsB v) (hl:v.length≤900000):IsB (cS fl t v):=by
  obtain ⟨⟨l,hl2,hz⟩,_⟩:=hv.take (er fl v).toNat
  have h1:(v.take (er fl v).toNat).length≤v.length:=by rw [List.length_take];omega
  unfold cS yq
  rw [hl2] at h1 ⊢
  cases kw fl
  · refine ⟨⟨bz fl 0::bz t 0::bz (er fl v) 0::l,rfl,fun z hm=> ?_⟩, ?_⟩
    · rcases List.mem_cons.1 hm with rfl | hm;exact pX _ _
      rcases List.mem_cons.1 hm with rfl | hm;exact pX _ _
      rcases List.mem_cons.1 hm with rfl | hm;exact pX _ _
      exact hz z hm
    · simp only [cond_false,List.length_append,List.length_cons,List.length_nil];omega
  · refine ⟨⟨bz fl 0::bz t 0::bz (er fl v) 8::bz (er fl v) 0::l,rfl,fun z hm=> ?_⟩, ?_⟩
    · rcases List.mem_cons.1 hm with rfl | hm;exact pX _ _
      rcases List.mem_cons.1 hm with rfl | hm;exact pX _ _
      rcases List.mem_cons.1 hm with rfl | hm;exact pX _ _
      rcases List.mem_cons.1 hm with rfl | hm;exact pX _ _
      exact hz z hm
    · simp only [cond_true,List.length_append,List.length_cons,List.length_nil];omega
theorem VCx.rowB {f:FuncId} {xs:List TV} {es:Bs} (hes:IsB es) (h:VCx Tryz.prog ae 0 f xs ⟨[], []⟩ fun x T' =>∃id off n,x= .row 1 id off n∧bQ T' 1 (.row 1 id off n)=some es):VCx Tryz.prog ae 0 f xs ⟨[], []⟩ fun x T' =>x= .vec 1 es .none∧T' =⟨[], []⟩:=by
 refine VCx.keepQ 0 0 (Nat.le_refl _) (Nat.le_refl _) ((VCx.freeze (size:=1) (es:=es) (Q:=fun _=>True) (h.mono fun x T' ⟨id,off,n,h1,h2⟩=>⟨id,off,n,h1,h2,trivial⟩)).mono ?_)
 rintro x T' ⟨rfl,_⟩
 exact ⟨by simp only [TV.ren,hes.ren,Tok.ren],rfl⟩
theorem A6 (fl t:Int):VCx Tryz.prog ae 0 oD [jG fl t []] ⟨[], []⟩ fun x T' =>x= .vec 1 (cS fl t []) .none∧T' =⟨[], []⟩:=by
 refine VCx.rowB (nk .nil (by simp)) (ai ac aa an ah (M5 fl t _) ?_)
 refine am (fun hx=>⟨7,0,4,rfl, ?_⟩) (fun hx=>⟨6,0,3,rfl, ?_⟩)
 ·have e:cS fl t []= [bT (bz fl 0),bT (bz t 0),bT (bz 0 8),bT (bz 0 0)]:=by
   unfold cS yq er;rw [show kw fl=true from hx];rfl
  rw [e]
  exact kg (es:= [bT (bz fl 0),bT (bz t 0),bT (bz 0 8),bT (bz 0 0)]) (by kernel_rfl) (by intro e he;simp only [List.mem_cons,List.not_mem_nil,or_false] at he;rcases he with rfl | rfl | rfl | rfl<;>rfl)
 ·have e:cS fl t []= [bT (bz fl 0),bT (bz t 0),bT (bz 0 0)]:=by
   unfold cS yq er;rw [show kw fl=false from hx];rfl
  rw [e]
  exact kg (es:= [bT (bz fl 0),bT (bz t 0),bT (bz 0 0)]) (by kernel_rfl) (by intro e he;simp only [List.mem_cons,List.not_mem_nil,or_false] at he;rcases he with rfl | rfl | rfl<;>rfl)
theorem A7 {T T' :VT} {s x:Operand} {l:List (Nat × TV)} {q0:List TV} {qs:Bs} {tok:Tok} {id n:Nat} {cs:List TV} {y:TV} (hs:aS ae l s= .row 1 id 0 n) (ho:T.objs[id]?=some (.row cs)) (hn:n≤cs.length) (hx:aS ae l x= .vec 1 (q0::qs) tok) (hb:n+(q0::qs).length≤2000001)
  (hy:TV.row 1 T.objs.length 0 (n+(q0::qs).length)=y) (hT:(T.kill id).newRow (cs.take n++(q0::qs).flatten)=T'):ba Tryz.prog ae 0 T (.call ⟨.builtin .append, #[s,x], #[22,22]⟩) l y T' :=by
 obtain ⟨inf,i1,i2,i3,i4⟩:=dn
 have h:=Cl (inf:=inf) (P:=Tryz.prog) (G:=ae) (ro:=0) (T:=T) (t:=22) (tx:=22) (s:=s) (x:=x) (l:=l) (q0:=q0) (qs:=qs) (tok:=tok) (id:=id) (n:=n) (cs:=cs) Tryz.underlying22 i1 i4 (by rw [i2];rfl) (by rfl) (by kernel_rfl) (by rw [i2];exact hs) ho (Nat.zero_le _) (by rw [i2];omega) (by rw [i2];exact hx) (by rw [i3];omega)
 rw [i2,Nat.mul_one,hy,hT] at h
 exact h
theorem M6 {fl:Int} {r:List TV} {v:Bs}:0<(er fl (r::v)).toNat:=by
 unfold er
 cases kw fl<;>simp only [cond_true,cond_false,List.length_cons]<;>split<;>omega
theorem C2 (fl t:Int) {r:List TV} {v:Bs} (hv:IsB (r::v)) (hl:(r::v).length≤900000):VCx Tryz.prog ae 0 oD [jG fl t (r::v)] ⟨[], []⟩ fun x T' =>x= .vec 1 (cS fl t (r::v)) .none∧T' =⟨[], []⟩:=by
  obtain ⟨h0,h1⟩:=GS fl (r::v)
  have hp:=M6 (fl:=fl) (r:=r) (v:=v)
  obtain ⟨qs,hqs⟩:∃qs,(r::v).take (er fl (r::v)).toNat=r::qs:=by
    obtain ⟨k,hk⟩:∃k,(er fl (r::v)).toNat=k+1:=⟨_,(Nat.succ_pred_eq_of_pos hp).symm⟩
    exact ⟨v.take k,by rw [hk];rfl⟩
  have hql:(r::qs).length≤900000:=by
    rw [←hqs,List.length_take];omega
  have hq1:∀e∈r::qs,e.length=1:=by
    rw [←hqs];exact (hv.take _).len1
  refine VCx.rowB (nk hv hl) (ai ac aa an ah (PU fl t (r::v) (r::qs) (r::qs).flatten (bif kw fl then 8 else 7) ((r::qs).length+(bif kw fl then 4 else 3)) _) ?_)
  refine am (fun hx=> ?_) (fun hx=> ?_)
  · have hx2:kw fl=true:=hx
    have hM:er fl (r::v)=(if (65535:Int)<((r::v).length:Int) then 65535 else ((r::v).length:Int)):=by unfold er;rw [hx2];rfl
    rw [hx2,←hM]
    refine ⟨?_,A7 (id:=7) (n:=4) (tok:= .none) rfl rfl (Nat.le_refl 4) rfl (by omega) (by rw [Nat.add_comm 4];rfl) rfl,8,0,(r::qs).length+4,rfl, ?_⟩
    · have h:=n9 (x:= .tmp 31) (i:= .tmp 32) (l:= [(31, .vec 1 (r::v) .none),(32, .val (.int .i64 (er fl (r::v))))]) (b:=r::v) (tok:= .none) (k:= .i64) (z:=er fl (r::v)) rfl rfl h0 rfl h1
      rwa [hqs] at h
    · have e:cS fl t (r::v)= [bT (bz fl 0),bT (bz t 0),bT (bz (er fl (r::v)) 8),bT (bz (er fl (r::v)) 0)]++(r::qs):=by unfold cS yq;rw [hx2,hqs];rfl
      rw [e]
      exact kg (es:= [bT (bz fl 0),bT (bz t 0),bT (bz (er fl (r::v)) 8),bT (bz (er fl (r::v)) 0)]++(r::qs)) rfl (fun e he=>by
        rcases List.mem_append.1 he with h | h
        · simp only [List.mem_cons,List.not_mem_nil,or_false] at h;rcases h with rfl | rfl | rfl | rfl<;>rfl
        · exact hq1 e h)
  · have hx2:kw fl=false:=hx
    have hM:er fl (r::v)=(if (255:Int)<((r::v).length:Int) then 255 else ((r::v).length:Int)):=by unfold er;rw [hx2];rfl
    rw [hx2,←hM]
    refine ⟨?_,A7 (id:=6) (n:=3) (tok:= .none) rfl rfl (Nat.le_refl 3) rfl (by omega) (by rw [Nat.add_comm 3];rfl) rfl,7,0,(r::qs).length+3,rfl, ?_⟩
    · have h:=n9 (x:= .tmp 31) (i:= .tmp 32) (l:= [(31, .vec 1 (r::v) .none),(32, .val (.int .i64 (er fl (r::v))))]) (b:=r::v) (tok:= .none) (k:= .i64) (z:=er fl (r::v)) rfl rfl h0 rfl h1
      rwa [hqs] at h
    · have e:cS fl t (r::v)= [bT (bz fl 0),bT (bz t 0),bT (bz (er fl (r::v)) 0)]++(r::qs):=by unfold cS yq;rw [hx2,hqs];rfl
      rw [e]
      exact kg (es:= [bT (bz fl 0),bT (bz t 0),bT (bz (er fl (r::v)) 0)]++(r::qs)) rfl (fun e he=>by
        rcases List.mem_append.1 he with h | h
        · simp only [List.mem_cons,List.not_mem_nil,or_false] at h;rcases h with rfl | rfl | rfl<;>rfl
        · exact hq1 e h)
end
section
open Go.RowKit

end
section
open Go.RowKit

def J0 (x:TV):Prop:=∀f g,x.ren f g=x
def EN (o h m:Int) (hm:Bool) (x:TV) (t:Int) (v:Bs) (O:VO):Prop:=O=lW o h m hm x t v
def DzOk (dz:TV) (d:Bs):Prop:=(dz= .val (.slice none 0 0)∧d= [])∨(dz= .vec 1 d .none∧IsB d)
theorem DzOk.le {dz:TV} {d:Bs} (h:DzOk dz d) (f g:Nat→Option Nat):TVle (dz.ren f g) (.vec 1 d .none):=by
 rcases h with ⟨rfl,rfl⟩ | ⟨rfl,hd⟩
 ·exact .nil 1
 ·simp only [TV.ren,hd.ren,Tok.ren];exact .refl _
theorem DzOk.nil:DzOk (.val (.slice none 0 0)) []:= .inl ⟨rfl,rfl⟩
def jH (fl t:Int) (v:Bs):Prop:=(0≤fl∧fl<256)∧(0≤t∧t<256)∧IsB v∧v.length≤900000
structure AtS where
 o:Int
 h:Int
 m:Int
 hm:Bool
 x:TV
def AtS.vo (a:AtS):VO:=lV a.o a.h a.m a.hm a.x
def AtS.tv (a:AtS):TV:= .agg [.val (.int .i64 a.o),a.x, .val (.int .u32 a.h), .val (.int .i64 a.m), .val (.bool a.hm)]
def tr:AtS:=⟨0,0,0,false, .val (.slice none 0 0)⟩
def AtS.put (a:AtS) (t:Int) (v:Bs):AtS:=
 if t=1 then {a with o:=cj 1 v} else if t=2 then {a with x:= .vec 1 (oC v) .none} else if t=3 then {a with h:=cj 4 v} else if t=4 then {a with m:=cj 4 v,hm:=true} else a
theorem M7 (a:AtS) (t:Int) (v:Bs):lW a.o a.h a.m a.hm a.x t v=(a.put t v).vo:=by
 unfold lW AtS.put AtS.vo
 split
 ·rfl
 split
 ·rfl
 split
 ·rfl
 split<;>rfl
def AtS.Ok (a:AtS):Prop:=a.x= .val (.slice none 0 0)∨∃l:List Int,a.x= .vec 1 (iV l) .none
theorem AtS.Ok.ren {a:AtS} (h:a.Ok) (f g:Nat→Option Nat):a.x.ren f g=a.x:=by
 rcases h with h | ⟨l,h⟩<;>rw [h]
 ·rfl
 ·simp only [TV.ren,dd,Tok.ren]
theorem rH:tr.Ok:= .inl rfl
theorem AtS.Ok.put {a:AtS} (h:a.Ok) (t:Int) (v:Bs):(a.put t v).Ok:=by
 unfold AtS.put
 split
 ·exact h
 split
 ·exact .inr ⟨_,rfl⟩
 split
 ·exact h
 split
 ·exact h
 ·exact h
theorem AtS.Ok.vo_ren {a:AtS} (h:a.Ok) (f g:Nat→Option Nat):a.vo.ren f g=a.vo:=dU h.ren f g
def eP (f:Nat→Bool):List TV:=(List.range 256).map fun i=> .val (.bool (f i))
def ix (f:Nat→Bool) (t:Nat):Nat→Bool:=fun i=>Nat.beq i t || f i
theorem A8 (f:Nat→Bool):(eP f).length=256:=by simp [eP]
theorem M8 {f:Nat→Bool} {t:Nat} (h:t<256):(eP f)[t]?=some (.val (.bool (f t))):=by
 simp [eP,List.getElem?_map,List.getElem?_range h]
theorem J1 (f:Nat→Bool) (t:Nat):(eP f).set t (.val (.bool true))=eP (ix f t):=by
  apply List.ext_getElem?
  intro j
  rw [List.getElem?_set]
  simp only [eP,List.getElem?_map,List.length_map,List.length_range]
  by_cases hj:j<256
  · rw [List.getElem?_range hj]
    by_cases e:t=j
    · subst e;rw [if_pos rfl,if_pos hj];simp [ix]
    · rw [if_neg e]
      have:Nat.beq j t=false:=by
        cases hb:Nat.beq j t
        · rfl
        · exact absurd (Nat.eq_of_beq_eq_true hb).symm e
      simp [ix,this]
  · rw [List.getElem?_eq_none (by simpa using hj:(List.range 256).length≤j)]
    by_cases e:t=j
    · rw [if_pos e,if_neg (by omega)];rfl
    · rw [if_neg e];rfl
def ei:List ib→(Nat→Bool)→AtS→(Int × Bs) ⊕ (AtS × (Nat→Bool))
 | [],f,a=> .inr (a,f)
 | (fl,t,v)::l,f,a=>bif f t.toNat then .inl (1, []) else if ct fl t v=0 then ei l (ix f t.toNat) (a.put t v) else if ct fl t v=11 then .inl (11, []) else .inl (ct fl t v,cS fl t v)
def ml (a:AtS) (f:Nat→Bool):(Int × Bs) ⊕ AtS:=bif f 1 then (bif f 2 then (bif f 3 then .inr a else .inl (3, [bT 3])) else .inl (3, [bT 2])) else .inl (3, [bT 1])
def gF (b:Bs):(Int × Bs) ⊕ AtS:=bif jm b then (match ei (gg b) (fun _=>false) tr with
 | .inl e=> .inl e
 | .inr (a,f)=>ml a f) else .inl (1, [])
def cT (c s:Int) (d:Bs):TV:= .agg [.val (.int .i64 c), .val (.int .i64 s), .vec 1 d .none]
def AtS.fix (a:AtS):AtS:={a with x:=match a.x with
 | .vec 1 l _=> .vec 1 l .none
 | _=> .vec 1 [] .none}
def o9 (b:Bs):TV:=match gF b with
 | .inl (s,d)=> .tup [tr.fix.tv,cT 3 s d]
 | .inr a=> .tup [a.fix.tv,cT 0 0 []]
theorem AtS.Ok.fix_le {a:AtS} (h:a.Ok):TVle a.tv a.fix.tv:=by
 obtain ⟨o,hh,m,hm,x⟩:=a
 rcases h with h | ⟨l,h⟩<;>simp only at h<;>subst h
 ·exact .agg ⟨.refl _, .nil 1, .refl _, .refl _, .refl _,trivial⟩
 ·exact .refl _
theorem AtS.Ok.fix_ren {a:AtS} (h:a.Ok) (f g:Nat→Option Nat):a.fix.tv.ren f g=a.fix.tv:=by
 obtain ⟨o,hh,m,hm,x⟩:=a
 rcases h with h | ⟨l,h⟩<;>simp only at h<;>subst h
 ·rfl
 ·simp only [AtS.tv,AtS.fix,TV.ren,ar,dd,Tok.ren]
def EO (l:List ib):Prop:=∀p∈l,(0≤p.1∧p.1<256)∧(0≤p.2.1∧p.2.1<256)∧IsB p.2.2∧p.2.2.length≤900000
theorem A9 {n:Nat} {b:Bs} (h:IsB b) (e:Int):0≤aL n b e∧aL n b e<256^n:=by rw [Ar];exact As h e
theorem C3 {b:Bs} (h:IsB b) (e:Int):0≤aL 1 b e∧aL 1 b e<256:=A9 (n:=1) h e
theorem M9 {n:Nat} {b:Bs} {e:Int}:(bR n b e).length≤n:=by
 have h:=sH (n:=n) (b:=b) (e:=e)
 revert h;cases cn n b e<;>simp only [cond_true,cond_false]<;>omega
theorem Na {b:Bs} (h:IsB b):(gE b).length≤900000:=by
 have h2:IsB (oA b):=aF (aF h)
 have h3:0≤vH b∧vH b<65536:=by
  unfold vH
  unfold ql
  cases kw (fN b)
  ·have:=A9 (n:=1) h2 (rD b)
   simp only [cond_false];omega
  ·exact A9 (n:=2) h2 (rD b)
 obtain ⟨k,hk⟩:=Int.eq_ofNat_of_zero_le h3.1
 have:=M9 (n:=k) (b:=pU b) (e:=t5 b)
 unfold gE
 rw [hk] at h3 ⊢
 have h4:k<65536:=by omega
 exact Nat.le_trans this (by omega)
theorem Ba:∀(k:Nat) (b:Bs) (acc:List ib),IsB b→EO acc→∀l,fc k b acc=some l→EO l
 | 0,_,_,_,_,l,h=>by cases h
 | k+1,b,acc,hb,ha,l,h=>by
  unfold fc at h
  cases h1:decide (bp b 0>0)<;>rw [h1] at h
  ·injection h with h;subst h;exact ha
  ·cases h2:decide (rE b=0)<;>rw [h2] at h
   ·cases h
   ·refine Ba k _ _ (GD hb) (fun p hp=> ?_) l h
    rcases List.mem_append.1 hp with h3 | h3
    ·exact ha p h3
    ·obtain rfl:=List.mem_singleton.1 h3
     exact ⟨C3 hb 0,C3 (aF hb) _,vI hb,Na hb⟩
theorem C4 {b:Bs} (hb:IsB b):EO (gg b):=by
 unfold gg
 cases h:qm b with
 | none=>exact fun p hp=>by simp at hp
 | some l=>exact Ba _ _ _ hb (fun p hp=>by simp at hp) l h
theorem Nb {b:Bs}:(gg b).length≤b.length+1:=by
 have key:∀(k:Nat) (b:Bs) (acc l:List ib),fc k b acc=some l→l.length≤acc.length+b.length+1:=by
  intro k
  induction k with
  | zero=>intro b acc l h;cases h
  | succ k ih=>
   intro b acc l h
   unfold fc at h
   by_cases hl:bp b 0>0
   ·rw [decide_eq_true hl] at h
    cases h2:decide (rE b=0)<;>rw [h2] at h
    ·cases h
    ·have h3:=ih _ _ _ h
     have h4:=vJ hl
     simp only [List.length_append,List.length_cons,List.length_nil] at h3
     omega
   ·rw [decide_eq_false hl] at h
    injection h with h;subst h;omega
 unfold gg
 cases h:qm b with
 | none=>simp
 | some l=>have:=key _ _ _ _ h;simpa using this
end
section
open Go.RowKit

abbrev rI:=84
def EP:aV:=fun _ ys T K=>match ys with
 | [.vec 1 b _]=>IsB b∧bif jm b then K (.tup [.vec 3 (ed b) .none, .agg [.val (.int .i64 0), .val (.int .i64 0), .vec 1 [] .none]]) T else K (.tup [.vec 3 (ed b) .none, .agg [.val (.int .i64 3), .val (.int .i64 1), .vec 1 [] .none]]) T
 | _=>aN 83 default ys
def EQ:aV:=fun ro ys T K=>match ys with
 | [.ptr k 0, .agg [.val (.int .i64 fl), .val (.int .i64 t), .vec 1 v .none]]=>match T.objs[k]? with
  | some (.cells [.val (.int .i64 o),x, .val (.int .u32 h), .val (.int .i64 m), .val (.bool hm)])=>(Nat.ble ro k=true∧IsB v∧J0 x)∧∀(s:Int) (O:VO),(s=ct fl t v∧(s=0→EN o h m hm x t v O))→K (.val (.int .i64 s)) {T with objs:=T.objs.set k O}
  | _=>aN 80 default ys
 | _=>aN 81 default ys
def ER:aV:=fun _ ys T K=>match ys with
 | [.agg [.val (.int .i64 fl), .val (.int .i64 t), .vec 1 v .none]]=>jH fl t v∧K (.vec 1 (cS fl t v) .none) T
 | _=>aN 83 default ys
def pY:TV:= .val (.slice none 0 0)
def tu:VO:= .cells [.val (.int .i64 0),pY, .val (.int .u32 0), .val (.int .i64 0), .val (.bool false)]
def C5:VO:= .cells [.val (.int .i64 0), .val (.int .i64 0),pY]
def vO:List Nat:= [2,3,6,7,22,23,24]
def tw (L:Bs) (j:Int):List TV:= [.ptr 0 0, .ptr 1 0, .ptr 3 0, .ptr 4 0, .vec 3 L .none, .val (.int .i64 L.length), .val (.int .i64 j)]
def C6:VO:= .cells [.val (.int .i64 0), .val (.int .i64 0), .vec 1 [] .none]
def Uc:VO:= .cells ((List.range 256).map fun _=> .val (.bool false))
def K2 (N:Nat) (L:Bs) (ok:Bool) (s:Int) (d:Bs) (o h m:Int) (hm:Bool) (xn:Bool) (xl:Bs) (c1 c2 c3:Bool) (K:KX):Prop:=bif ok then (∀(j:Int) (c0:Bool) (rm:List TV),bif xn then K .normal (aR N vO (tw L j)) ⟨[tu,C5,C6,lV o h m hm pY, .cells (.val (.bool c0):: .val (.bool c1):: .val (.bool c2):: .val (.bool c3)::rm)], []⟩ [] else K .normal (aR N vO (tw L j)) ⟨[tu,C5,C6,lV o h m hm (.vec 1 xl .none), .cells (.val (.bool c0):: .val (.bool c1):: .val (.bool c2):: .val (.bool c3)::rm)], []⟩ []) else ∀(j:Int) (dz:TV) (rest:List VO) (tlz:CT),DzOk dz d→K .ret (aR N vO (tw L j)) ⟨tu:: .cells [.val (.int .i64 3), .val (.int .i64 s),dz]::rest,tlz⟩ []
def Ud (N:Nat) (L:Bs) (ok:Bool) (s:Int) (d:Bs) (o h m:Int) (hm:Bool) (xn:Bool) (xl:Bs) (c1 c2 c3:Bool) (c0:Code):Nat→Option (b6 × Code):=cJ [(0,eU N vO [] (tw L 0) ⟨[tu,C5,C6,tu,Uc], []⟩ (K2 N L ok s d o h m hm xn xl c1 c2 c3),c0)]
theorem K3 (b:Bs) (ok:Bool) (s:Int) (d:Bs) (o h m:Int) (hm:Bool) (xn:Bool) (xl:Bs) (c1 c2 c3:Bool) (Q:TV→VT→Prop):au Tryz.prog ae (aC [(rC,EP)]) (bc [(999999, .dead,none)]) 300 (Ud 65 (ed b) ok s d o h m hm xn xl c1 c2 c3 (aH Tryz.prog rI 0)) 0 rI [.vec 1 b .none] aG Q=
 (IsB (b)∧
 (bif jm b
 then ((aH Tryz.prog rI (0:Nat)=aH Tryz.prog rI (0:Nat))∧
 (((@Eq (Option Nat) .none .none)∧
 ((@Eq (Nat) 0 0)∧
 ((@Eq (List Nat) [] [])∧
 (True  ∧
 ((@Eq (VT) OY OY)∧
 ((@Eq (Bool) true true)∧
 (@Eq (List TV) [eg,(.ptr 1 0),(.ptr 3 0),(.ptr 4 0),(.vec 3 (ed b) .none),(ak (↑(List.length (ed b)):Int)),aD] [eg,(.ptr 1 0),(.ptr 3 0),(.ptr 4 0),(.vec 3 (ed b) .none),(ak (↑(List.length (ed b)):Int)),aD])))))))∧
 (bif ok
 then (∀j:Int,(∀c0:Bool,(∀rm:List TV,(bif xn
 then (bif av BinOp.eql (aP (Value.bool false) (Value.bool c1))
 then Q (wP [[(.val (.int .u8 1))]]) (Jb [[(.val (.int .u8 1))]] o h m hm ([(.val (.bool (c0))),(.val (.bool (c1))),(.val (.bool (c2))),(.val (.bool (c3)))]++rm))
 else (bif av BinOp.eql (aP (Value.bool false) (Value.bool c2))
 then Q (wP [[(.val (.int .u8 2))]]) (Jb [[(.val (.int .u8 2))]] o h m hm ([(.val (.bool (c0))),(.val (.bool (c1))),(.val (.bool (c2))),(.val (.bool (c3)))]++rm))
 else (bif av BinOp.eql (aP (Value.bool false) (Value.bool c3))
 then Q (wP [[(.val (.int .u8 3))]]) (Jb [[(.val (.int .u8 3))]] o h m hm ([(.val (.bool (c0))),(.val (.bool (c1))),(.val (.bool (c2))),(.val (.bool (c3)))]++rm))
 else Q (.tup [(.agg [(ak o),aO,(ir h),(ak m),(nY hm)]),kj]) ⟨[(Ja o h m hm),cg,dM,(Ja o h m hm),(.cells ([(.val (.bool (c0))),(.val (.bool (c1))),(.val (.bool (c2))),(.val (.bool (c3)))]++rm))], []⟩)))
 else (bif av BinOp.eql (aP (Value.bool false) (Value.bool c1))
 then Q (wP [[(.val (.int .u8 1))]]) (I9 [[(.val (.int .u8 1))]] o xl h m hm ([(.val (.bool (c0))),(.val (.bool (c1))),(.val (.bool (c2))),(.val (.bool (c3)))]++rm))
 else (bif av BinOp.eql (aP (Value.bool false) (Value.bool c2))
 then Q (wP [[(.val (.int .u8 2))]]) (I9 [[(.val (.int .u8 2))]] o xl h m hm ([(.val (.bool (c0))),(.val (.bool (c1))),(.val (.bool (c2))),(.val (.bool (c3)))]++rm))
 else (bif av BinOp.eql (aP (Value.bool false) (Value.bool c3))
 then Q (wP [[(.val (.int .u8 3))]]) (I9 [[(.val (.int .u8 3))]] o xl h m hm ([(.val (.bool (c0))),(.val (.bool (c1))),(.val (.bool (c2))),(.val (.bool (c3)))]++rm))
 else Q (.tup [(.agg [(ak o),(aI xl),(ir h),(ak m),(nY hm)]),kj]) ⟨[(wO o xl h m hm),cg,dM,(wO o xl h m hm),(.cells ([(.val (.bool (c0))),(.val (.bool (c1))),(.val (.bool (c2))),(.val (.bool (c3)))]++rm))], []⟩)))))))
 else (∀j:Int,(∀dz:TV,(∀rest:List VO,(∀tlz:CT,(DzOk (dz) (d)→Q (.tup [I8,(.agg [eL,(ak s),dz])]) ⟨[(.cells [(.val (.int .i64 0)),(.val (.slice .none 0 0)),(.val (.int .u32 0)),(.val (.int .i64 0)),(.val (.bool false))]),(.cells [(.val (.int .i64 3)),(.val (.int .i64 (s))),(dz)])]++rest,tlz⟩))))))))
 else Q (.tup [I8,(.agg [eL,dX,pR])]) ⟨[m9,OX,OX], []⟩)):=by kernel_rfl
abbrev zk (L:Bs) (j:Int):List TV:=(OW L (↑(List.length L):Int) j)
theorem GT (L:Bs) (j fl t:Int) (v:Bs) (tn:Nat) (c:Bool) (M M2:List TV) (o h m:Int) (hm:Bool) (x:TV) (Q:Exit→List TV→VT→List Nat→Nat→Prop):vx Tryz.prog ae (aC [(A3,EQ),(oD,ER)]) (bc [(999999, .dead,none),(26, .elt [.val (.int .i64 fl), .val (.int .i64 t), .vec 1 v .none],none),(30, .ptr 4 tn,none),(31, .val (.bool c),some fun T=>T),(36, .ptr 4 tn,none),(500036, .val undef,some fun T=>{T with objs:=T.objs.set 4 (.cells M2)})]) 300 aK none 0 (cI Tryz.prog rI 0) (aR 65 vO (tw L j)) ⟨[tu,C5,C6,lV o h m hm x, .cells M], []⟩ [] (dm vO Q)=
 (bif decide (j<(↑(List.length L):Int))
 then (bo Tryz.prog (fun _=> .none) (.indexAddr 199 (.tmp 22) (.tmp 24)) [(22,(.vec 3 L .none)),(24,(ak j))] (.elt [(ak fl),(ak t),(aI v)])∧
 (bo Tryz.prog (fun _=> .none) (.indexAddr 202 (.tmp 7) (.tmp 29)) [(7,(.ptr 4 0)),(29,(ak t))] (.ptr 4 tn)∧
 (ba Tryz.prog (fun _=> .none) 0 (EA o x h m hm M fl t v) (.load 4 (.tmp 30)) [(30,(.ptr 4 tn))] (nY c) (EA o x h m hm M fl t v)∧
 (bif c
 then Q .ret (zk L j) ⟨[m9,AA,dM,(fH o x h m hm),(.cells M),(ep fl t v)], []⟩ [] 65
 else (bo Tryz.prog (fun _=> .none) (.indexAddr 202 (.tmp 7) (.tmp 35)) [(7,(.ptr 4 0)),(35,(ak t))] (.ptr 4 tn)∧
 (ba Tryz.prog (fun _=> .none) 0 (EA o x h m hm M fl t v) (.store 4 (.tmp 36) (.const (.bool true))) [(36,(.ptr 4 tn))] (.val (.tuple #[])) (EA o x h m hm M2 fl t v)∧
 (((@Eq (Bool) true true)∧
 (IsB (v)∧
 J0 (x)))∧
 (∀s:Int,(∀O:VO,(((@Eq (Int) (s) (ct fl t v))∧
 ((@Eq (Int) (s) 0)→EN (o) (h) (m) (hm) (x) (t) (v) (O)))→(bif av BinOp.eql (k6 s (0:Int))
 then Q .normal (OW L (↑(List.length L):Int) (IntKind.wrap IntKind.i64 (j+(1:Int)))) ⟨[m9,cg,dM,O,(.cells M2),(ep fl t v)], []⟩ [] 65
 else (bif av BinOp.eql (k6 s (11:Int))
 then Q .ret (zk L j) ⟨[m9,(.cells [eL,(ak s),aO]),dM,O,(.cells M2),(ep fl t v)], []⟩ [] 65
 else (jH (fl) (t) (v)∧
 Q .ret (zk L j) ⟨[m9,(I7 s (cS fl t v)),dM,O,(.cells M2),(ep fl t v)], []⟩ [] 65)))))))))))))
 else Q (.exit 0) (zk L j) ⟨[m9,cg,dM,(fH o x h m hm),(.cells M)], []⟩ [] 65):=by kernel_rfl
end
section
open Go.RowKit

section
variable {P:Program} {G:aU}
theorem GU {t e:TypeId} {x i:Operand} {l:List (Nat × TV)} {inf:TypeInfo} {id off n:Nat} {k:IntKind} {z:Int} (ht:P.underlying t=some (.array n e)) (hi:P.info? e=some inf)
  (hx:aS G l x= .ptr id off) (hz:aS G l i= .val (.int k z)) (h0:0≤z) (h1:z<n):bo P G (.indexAddr t x i) l (.ptr id (off+z.toNat*inf.size)):=by
 refine ⟨?_⟩
 simp [bm,hx,hz,mt,fh,ht,hi,h0,h1]
theorem Cm {ro:Nat} {T:VT} {t:TypeId} {d:TypeDesc} {a:Operand} {l:List (Nat × TV)} {inf:TypeInfo} {id off:Nat} {cs:List TV} {y:TV} (ht:P.underlying t=some d) (hd:mH d=false) (hi:P.info? t=some inf)
  (ha:aS G l a= .ptr id off) (ho:T.objs[id]?=some (.cells cs)) (hy:cs[off]?=some y):ba P G ro T (.load t a) l y T:=by
 refine .mk ?_
 have hlt:=(List.getElem?_eq_some_iff.1 hy).1
 have hc:dC T (.ptr id off) 1=some [y]:=by
  simp only [dC,ho]
  rw [if_pos (by omega)]
  congr 1
  rw [List.take_one,List.head?_drop,hy];rfl
 have h1:bm P (.load t a) (aS G l)=none:=by simp [bm,dI]
 have h2:bh P T (.load t a) (aS G l)=some y:=by simp [bh,dj,j5,ht,hi,hd,ha,hc]
 simp only [fX,h1,h2]
theorem Bb {ro:Nat} {T:VT} {t:TypeId} {a x:Operand} {l:List (Nat × TV)} {inf:TypeInfo} {id off:Nat} {cs new:List TV} (hi:P.info? t=some inf)
  (ha:aS G l a= .ptr id off) (hx:bu (aS G l x)=some new) (ho:T.objs[id]?=some (.cells cs)) (hn:inf.size=new.length) (hle:off+new.length≤cs.length) (hc:new.all fj=true) (hro:ro≤id):
  ba P G ro T (.store t a x) l (.val undef) {T with objs:=T.objs.set id (.cells (bS cs off new))}:=by
 refine .old ?_ ?_
 ·simp [nP,ha,hro]
 ·have h1:mJ P T t (aS G l a) (aS G l x)=some (.val undef,{T with objs:=T.objs.set id (.cells (bS cs off new))}):=by
   simp only [mJ,ha,ho,hx,hi]
   rw [if_pos ⟨hn,hle,hc⟩]
  simp [s7,dI,dj,mL,h1]
theorem GV (cs:List TV) (off:Nat) (y:TV) (h:off<cs.length):bS cs off [y]=cs.set off y:=by
 unfold bS
 rw [List.set_eq_take_append_cons_drop,if_pos h]
 simp
end
end
section
open Go.RowKit

theorem Nc {b:Bs} (hb:IsB b) (f g:Nat→Option Nat):(tj b).ren f g=tj b:=by
 simp only [tj,TV.ren,ar,wZ hb,Tok.ren,bg]
theorem Nd {f:FuncId} (h:∀{b:Bs},IsB b→VCx Tryz.prog ae 0 f [.vec 1 b .none] ⟨[], []⟩ fun x T' =>x=tj b∧T' =⟨[], []⟩):∀ro ys T K,EP ro ys T K→VCx Tryz.prog ae ro f ys T K:=by
 intro ro ys T K hw
 unfold EP at hw
 split at hw
 ·rename_i b tok
  refine VCx.loosePure aq (h hw.1) (by simp [bG]) (by simp [ar,TV.ren,hw.1.ren,Tok.ren]) (fun f h=>Nc hw.1 f h) ?_
  have h2:=hw.2
  unfold tj
  cases hh:jm b<;>rw [hh] at h2<;>exact h2
 ·exact hw.elim
theorem Nf {o h m t:Int} {hm:Bool} {x:TV} {v:Bs} (hx:J0 x) (f g:Nat→Option Nat):(lW o h m hm x t v).ren f g=lW o h m hm x t v:=by
 unfold lW
 split
 ·exact dU hx f g
 split
 ·exact dU (uf v) f g
 split
 ·exact dU hx f g
 split
 ·exact dU hx f g
 ·exact dU hx f g
theorem Ng {f:FuncId} (hf:∀(o h m fl t:Int) (hm:Bool) {x:TV} (_:∀f g,x.ren f g=x) {v:Bs} (_:IsB v),VCx Tryz.prog ae 0 f [.ptr 0 0,jG fl t v] ⟨[lV o h m hm x], []⟩ (vN o h m hm x fl t v)):∀ro ys T K,EQ ro ys T K→VCx Tryz.prog ae ro f ys T K:=by
 intro ro ys T K hw
 unfold EQ at hw
 split at hw
 ·rename_i k fl t v
  split at hw
  ·rename_i o x h m hm ho
   obtain ⟨⟨hro,hv,hx⟩,hk⟩:=hw
   refine VCx.at1 (Q:=fun y o' l' =>y= .val (.int .i64 (ct fl t v))∧l' = []∧(ct fl t v=0→o' =lW o h m hm x t v)) aq (Nat.le_of_ble_eq_true hro) ho rfl (dU hx _ _) (ys1:= [.ptr 0 0,jG fl t v]) (by simp [ar,TV.ren,bb,jG,hv.ren,Tok.ren]) ((hf o h m fl t hm hx hv).mono ?_) ?_
   ·rintro y T' ⟨h1,O,h2,h3⟩
    exact ⟨O, [],h2,h1,rfl,h3⟩
   ·rintro y o' l' ⟨rfl,rfl,h3⟩
    simpa [TV.ren] using hk (ct fl t v) (o'.ren (bf T.objs.length [k]) (bf T.tails.length [])) ⟨rfl,fun hs=>by
     unfold EN
     rw [h3 hs];exact Nf hx _ _⟩
  ·exact hw.elim
 ·exact hw.elim
theorem Nh {f:FuncId} (h:∀(fl t:Int) (v:Bs),jH fl t v→VCx Tryz.prog ae 0 f [jG fl t v] ⟨[], []⟩ fun x T' =>x= .vec 1 (cS fl t v) .none∧T' =⟨[], []⟩):∀ro ys T K,ER ro ys T K→VCx Tryz.prog ae ro f ys T K:=by
 intro ro ys T K hw
 unfold ER at hw
 split at hw
 ·rename_i fl t v
  have hv:=hw.1.2.2.1
  have hr:=nk (fl:=fl) (t:=t) hv hw.1.2.2.2
  exact VCx.liftPure aq (h fl t v hw.1) (by simp [ar,TV.ren,jG,hv.ren,Tok.ren]) (fun f g=>by simp only [TV.ren,hr.ren,Tok.ren]) hw.2
 ·exact hw.elim
theorem Ni (fl t:Int) (v:Bs) (h:jH fl t v):VCx Tryz.prog ae 0 oD [jG fl t v] ⟨[], []⟩ fun x T' =>x= .vec 1 (cS fl t v) .none∧T' =⟨[], []⟩:=by
 cases v with
 | nil=>exact A6 fl t
 | cons r v=>exact C2 fl t h.2.2.1 h.2.2.2
theorem J2 (f:Nat→Bool) (g h:Nat→Option Nat):ar g h (eP f)=eP f:=by
 simp only [fA,eP,List.map_map];rfl
theorem J3 (f:Nat→Bool) (g h:Nat→Option Nat):(VO.cells (eP f)).ren g h= .cells (eP f):=by
 simp only [VO.ren,J2]
theorem GW (f:Nat→Bool):eP f= .val (.bool (f 0)):: .val (.bool (f 1)):: .val (.bool (f 2)):: .val (.bool (f 3))::(eP f).drop 4:=rfl
def w3 (b:Bs):(Int × Bs) ⊕ (AtS × (Nat→Bool)):=ei (gg b) (fun _=>false) tr
theorem w4:∀(l:List ib) (f:Nat→Bool) (a:AtS),a.Ok→∀a' f',ei l f a= .inr (a',f')→a'.Ok
 | [],f,a,h,a',f',e=>by injection e with e;injection e with e1 e2;exact e1▸h
 | (fl,t,v)::l,f,a,h,a',f',e=>by
  unfold ei at e
  cases hf:f t.toNat<;>rw [hf] at e
  ·simp only [cond_false] at e
   split at e
   ·exact w4 l _ _ (h.put t v) a' f' e
   ·split at e<;>cases e
  ·cases e
def K4 (a:AtS) (f:Nat→Bool):VT:=⟨[tu,C5,C6,a.vo, .cells (eP f)], []⟩
def UO (s:Int) (dz:TV):VO:= .cells [.val (.int .i64 3), .val (.int .i64 s),dz]
def GX (b:Bs) (ex:Exit) (vs:List TV) (T:VT):Prop:=
 (∃(a:AtS) (f:Nat→Bool) (j:Int),w3 b= .inr (a,f)∧ex= .normal∧vs=tw (ed b) j∧T=K4 a f)∨
 (∃(s:Int) (d:Bs) (dz:TV) (rest:List VO) (tlz:CT) (j:Int),w3 b= .inl (s,d)∧DzOk dz d∧ex= .ret∧vs=tw (ed b) j∧T=⟨tu::UO s dz::rest,tlz⟩)
def vP (b:Bs) (ok:Bool) (s:Int) (d:Bs) (o h m:Int) (hm:Bool) (xn:Bool) (xl:Bs) (c1 c2 c3:Bool):Prop:=
 (ok=false∧w3 b= .inl (s,d))∨(ok=true∧∃f,w3 b= .inr (⟨o,h,m,hm,bif xn then pY else .vec 1 xl .none⟩,f)∧c1=f 1∧c2=f 2∧c3=f 3)
theorem GY {N:Nat} {b:Bs} {ok:Bool} {s:Int} {d:Bs} {o h m:Int} {hm xn:Bool} {xl:Bs} {c1 c2 c3:Bool} {K:KX} (hp:vP b ok s d o h m hm xn xl c1 c2 c3) (hK:K2 N (ed b) ok s d o h m hm xn xl c1 c2 c3 K) {ex:Exit} {vs:List TV} {T:VT} (hq:GX b ex vs T):K ex (aR N vO vs) T []:=by
  unfold K2 at hK
  rcases hp with ⟨rfl,hr⟩ | ⟨rfl,f,hr,rfl,rfl,rfl⟩
  · rcases hq with ⟨a,f,j,h1,_⟩ | ⟨s',d',dz,rest,tlz,j,h1,h2,rfl,rfl,rfl⟩
    · rw [hr] at h1;cases h1
    · rw [hr] at h1;injection h1 with h1;injection h1 with e1 e2;subst e1 e2
      exact hK j dz rest tlz h2
  · rcases hq with ⟨a,f',j,h1,rfl,rfl,rfl⟩ | ⟨s',d',dz,rest,tlz,j,h1,_⟩
    · rw [hr] at h1;injection h1 with h1;injection h1 with e1 e2;subst e1 e2
      have h3:=hK j (f 0) ((eP f).drop 4)
      unfold K4
      rw [GW f]
      cases xn<;>exact h3
    · rw [hr] at h1;cases h1
theorem J4 {x i:Operand} {l:List (Nat × TV)} {es:Bs} {tok:Tok} {k:IntKind} {z:Int} {cs:List TV} (hx:aS ae l x= .vec 3 es tok) (hz:aS ae l i= .val (.int k z)) (h0:0≤z) (he:es[z.toNat]?=some cs):bo Tryz.prog ae (.indexAddr 199 x i) l (.elt cs):=by
 obtain ⟨inf,i1,i2,i3,i4⟩:=AT
 exact gO (inf:=inf) Tryz.underlying199 i1 (by rw [i2];exact hx) hz h0 he
theorem ug:∃inf:TypeInfo,Tryz.prog.info? 4=some inf∧inf.size=1:=⟨(Tryz.prog.info? 4).getD default,by kernel_rfl,by kernel_rfl⟩
theorem J5:∃d:TypeDesc,Tryz.prog.underlying 4=some d∧mH d=false:=⟨_,Tryz.underlying4,rfl⟩
theorem yr {x i:Operand} {l:List (Nat × TV)} {id:Nat} {k:IntKind} {z:Int} (hx:aS ae l x= .ptr id 0) (hz:aS ae l i= .val (.int k z)) (h0:0≤z) (h1:z<256):bo Tryz.prog ae (.indexAddr 202 x i) l (.ptr id z.toNat):=by
 obtain ⟨inf,i1,i2⟩:=ug
 have h:=GU (P:=Tryz.prog) (G:=ae) (inf:=inf) (t:=202) (x:=x) (i:=i) (l:=l) Tryz.underlying202 i1 hx hz h0 h1
 rwa [i2,Nat.mul_one,Nat.zero_add] at h
theorem GZ {T:VT} {a:Operand} {l:List (Nat × TV)} {id off:Nat} {f:Nat→Bool} (ha:aS ae l a= .ptr id off) (ho:T.objs[id]?=some (.cells (eP f))) (h1:off<256):ba Tryz.prog ae 0 T (.load 4 a) l (.val (.bool (f off))) T:=by
 obtain ⟨inf,i1,i2⟩:=ug
 obtain ⟨d,d1,d2⟩:=J5
 exact Cm d1 d2 i1 ha ho (M8 h1)
theorem ES {T T' :VT} {a:Operand} {l:List (Nat × TV)} {id off:Nat} {f:Nat→Bool} (ha:aS ae l a= .ptr id off) (ho:T.objs[id]?=some (.cells (eP f))) (h1:off<256) (hT:{T with objs:=T.objs.set id (.cells (eP (ix f off)))}=T'):ba Tryz.prog ae 0 T (.store 4 a (.const (.bool true))) l (.val (.tuple #[])) T' :=by
 obtain ⟨inf,i1,i2⟩:=ug
 have h:=Bb (P:=Tryz.prog) (G:=ae) (ro:=0) (T:=T) (t:=4) (a:=a) (x:= .const (.bool true)) (l:=l) (inf:=inf) (id:=id) (off:=off) (cs:=eP f) (new:= [.val (.bool true)]) i1 ha rfl ho (by rw [i2];rfl) (by rw [A8];exact h1) rfl (Nat.zero_le _)
 rw [GV _ _ _ (by rw [A8];exact h1),J1,hT] at h
 exact h
abbrev PV:=Nat × (Nat→Bool) × AtS

theorem PW:aZ Tryz.prog ae (aC [(A3,EQ),(oD,ER)]):=aJ fun p hp=>by
 rcases List.mem_cons.1 hp with rfl | hp;exact Ng M4
 obtain rfl:=List.mem_singleton.1 hp;exact Nh Ni
theorem J6 {b:Bs} (hb:IsB b) {ok:Bool} {s:Int} {d:Bs} {o h m:Int} {hm xn:Bool} {xl:Bs} {c1 c2 c3:Bool} (hp:vP b ok s d o h m hm xn xl c1 c2 c3) (K:KX) (hK:K2 65 (ed b) ok s d o h m hm xn xl c1 c2 c3 K):VWx Tryz.prog ae none 0 (aH Tryz.prog rI 0) (aR 65 vO (tw (ed b) 0)) ⟨[tu,C5,C6,tu,Uc], []⟩ [] K:=by
  have hA:=C4 hb
  have hAl:=Nb (b:=b)
  have hsm:=hb.small
  let sl:PV→List TV:=fun s=>tw (ed b) s.1
  let TT:PV→VT:=fun s=>K4 s.2.2 s.2.1
  refine dS (f:=rI) (id:=0) (by kernel_rfl) 65 vO (fun s:PV=>(gg b).length-s.1) sl TT (fun s=>s.1≤(gg b).length∧s.2.2.Ok∧ei ((gg b).drop s.1) s.2.1 s.2.2=w3 b) 5 0 (fun _ _=>⟨Nat.le_refl _,Nat.le_refl _⟩)
    (GX b) (fun s hs=> ?_) ⟨0,fun _=>false,tr⟩ ⟨Nat.zero_le _,rH,rfl⟩ K (fun ex vs T h=>GY hp hK h)
  obtain ⟨k,f,a⟩:=s
  obtain ⟨hk,ha,hgo⟩:=hs
  simp only at hk ha hgo
  have hL:(ed b).length=(gg b).length:=by simp [ed]
  by_cases hlt:k<(gg b).length
  · obtain ⟨fl,t,v,hat⟩:∃fl t v,(gg b)[k]?=some (fl,t,v):=⟨_,_,_,List.getElem?_eq_getElem hlt⟩
    obtain ⟨h1,h2,hv,hvl⟩:=hA _ (List.mem_of_getElem? hat)
    simp only at h1 h2 hv hvl
    have htn:t.toNat<256:=by omega
    have hdrop:(gg b).drop k=(fl,t,v)::(gg b).drop (k+1):=by
      rw [List.drop_eq_getElem_cons hlt]
      have:=List.getElem?_eq_getElem hlt
      rw [hat] at this;injection this with this;rw [←this]
    rw [hdrop] at hgo
    have hE:(ed b)[((k:Nat):Int).toNat]?=some (fv (fl,t,v)):=by
      rw [Int.toNat_natCast];simp [ed,List.getElem?_map,hat]
    refine b7 ac aa PW ah (GT (ed b) k fl t v t.toNat (f t.toNat) (eP f) (eP (ix f t.toNat)) a.o a.h a.m a.hm a.x _) ?_
    refine aQ (decide_eq_true (show ((k:Nat):Int)<((ed b).length:Nat) by omega)) ⟨J4 rfl rfl (by omega) hE,yr rfl rfl h2.1 h2.2,GZ rfl rfl htn, ?_⟩
    cases hf:f t.toNat
    · refine ⟨yr rfl rfl h2.1 h2.2,ES rfl rfl htn rfl,⟨rfl,hv,ha.ren⟩, ?_⟩
      rintro s O ⟨hs,hO⟩
      have hgo1:ei ((fl,t,v)::(gg b).drop (k+1)) f a=(if ct fl t v=0 then ei ((gg b).drop (k+1)) (ix f t.toNat) (a.put t v) else if ct fl t v=11 then .inl (11, []) else .inl (ct fl t v,cS fl t v)):=by
        simp only [ei,hf,cond_false]
      rw [←hs] at hgo1
      refine am (fun e0=> ?_) (fun e0=> ?_)
      · replace e0:s=0:=dP e0
        have hO2:O=(a.put t v).vo:=by
          have:=hO e0
          unfold EN at this
          rw [this,M7]
        rw [bP (z:=((k:Nat):Int)+1) (by omega) (by omega)]
        refine ⟨rfl,rfl,⟨k+1,ix f t.toNat,a.put t v⟩,⟨hlt,ha.put t v, ?_⟩,by simp only;omega, .inr ⟨?_, ?_⟩⟩
        · simp only;rw [←hgo,hgo1,if_pos e0]
        · show VT.keep _ 5 0=K4 _ _
          simp only [VT.keep,List.take_succ_cons,List.take_zero,List.map_cons,List.map_nil,hO2,(ha.put t v).vo_ren,J3]
          rfl
        · simp only [ar,TV.ren,wZ hb,Tok.ren]
          simp only [sl,tw]
          rfl
      · replace e0:¬s=0:=di e0
        rw [if_neg e0] at hgo1
        refine am (fun e1=> ?_) (fun e1=> ?_)
        · replace e1:s=11:=dP e1
          rw [if_pos e1] at hgo1
          exact ⟨rfl,rfl, .inr ⟨11, [],_,_,_,k,by rw [←hgo,hgo1], .nil,rfl,rfl,by rw [e1];rfl⟩⟩
        · replace e1:¬s=11:=di e1
          rw [if_neg e1] at hgo1
          exact ⟨⟨h1,h2,hv,hvl⟩,rfl,rfl, .inr ⟨s,cS fl t v,_,_,_,k,by rw [←hgo,hgo1], .inr ⟨rfl,nk hv hvl⟩,rfl,rfl,rfl⟩⟩
    · have hgo1:ei ((fl,t,v)::(gg b).drop (k+1)) f a= .inl (1, []):=by
        simp only [ei,hf,cond_true]
      exact ⟨rfl,rfl, .inr ⟨1, [],_,_,_,k,by rw [←hgo,hgo1], .nil,rfl,rfl,rfl⟩⟩
  · have hk2:k=(gg b).length:=by omega
    refine b7 ac aa PW ah (GT (ed b) k 0 0 [] 0 false (eP f) [] a.o a.h a.m a.hm a.x _) ?_
    rw [hk2,List.drop_length] at hgo
    exact aM (decide_eq_false (show ¬((k:Nat):Int)<((ed b).length:Nat) by omega)) ⟨rfl,rfl, .inl ⟨a,f,k,hgo.symm,rfl,rfl,rfl⟩⟩
theorem C7 {b:Bs} (hb:IsB b) {ok:Bool} {s:Int} {d:Bs} {o h m:Int} {hm xn:Bool} {xl:Bs} {c1 c2 c3:Bool} (hp:vP b ok s d o h m hm xn xl c1 c2 c3):dD Tryz.prog ae (Ud 65 (ed b) ok s d o h m hm xn xl c1 c2 c3 (aH Tryz.prog rI 0)):=bL fun p hq=>by
 obtain rfl:=List.mem_singleton.1 hq
 exact cA fun K hK=>J6 hb hp K hK

theorem mF {b:Bs} {s:Int} {d:Bs} (h:gF b= .inl (s,d)) {dz:TV} (hd:TVle dz (.vec 1 d .none)):TVle (.tup [.agg [.val (.int .i64 0),pY, .val (.int .u32 0), .val (.int .i64 0), .val (.bool false)], .agg [.val (.int .i64 3), .val (.int .i64 s),dz]]) (o9 b):=by
 unfold o9
 rw [h]
 exact .tup ⟨.agg ⟨.refl _, .nil 1, .refl _, .refl _, .refl _,trivial⟩, .agg ⟨.refl _, .refl _,hd,trivial⟩,trivial⟩
theorem Nj {b:Bs} {a:AtS} (h:gF b= .inr a) (ha:a.Ok):TVle (.tup [a.tv, .agg [.val (.int .i64 0), .val (.int .i64 0),pY]]) (o9 b):=by
 unfold o9
 rw [h]
 exact .tup ⟨ha.fix_le, .agg ⟨.refl _, .refl _, .nil 1,trivial⟩,trivial⟩
theorem w5 (b:Bs) (f g:Nat→Option Nat) (hb:IsB b):(o9 b).ren f g=o9 b:=by
 have hd:∀s d,gF b= .inl (s,d)→bg f g d=d:=by
  intro s d h
  unfold gF at h
  cases ho:jm b<;>rw [ho] at h
  ·injection h with h;injection h with h1 h2;rw [←h2];rfl
  ·simp only [cond_true] at h
   have key:∀(l:List ib) (f' :Nat→Bool) (a:AtS),EO l→∀s d,ei l f' a= .inl (s,d)→bg f g d=d:=by
    intro l
    induction l with
    | nil=>intro f' a _ s d e;cases e
    | cons p l ih=>
     obtain ⟨fl,t,v⟩:=p
     intro f' a hl s d e
     unfold ei at e
     obtain ⟨_,_,hv,hvl⟩:=hl _ List.mem_cons_self
     cases hf:f' t.toNat<;>rw [hf] at e
     ·simp only [cond_false] at e
      split at e
      ·exact ih _ _ (fun p hp=>hl p (List.mem_cons_of_mem _ hp)) s d e
      ·split at e
       ·injection e with e;injection e with e1 e2;rw [←e2];rfl
       ·injection e with e;injection e with e1 e2;rw [←e2];exact (nk hv hvl).ren f g
     ·injection e with e;injection e with e1 e2;rw [←e2];rfl
   split at h
   ·rename_i e he
    injection h with h;subst h
    exact key _ _ _ (C4 hb) s d he
   ·rename_i a f' he
    unfold ml at h
    cases g1:f' 1<;>cases g2:f' 2<;>cases g3:f' 3<;>simp only [g1,g2,g3,cond_true,cond_false] at h<;>first | (cases h;done) | (injection h with h;injection h with e1 e2;rw [←e2];rfl)
 have ha:∀a,gF b= .inr a→a.Ok:=by
  intro a h
  unfold gF at h
  cases ho:jm b<;>rw [ho] at h
  ·cases h
  ·simp only [cond_true] at h
   split at h
   ·cases h
   ·rename_i a' f' he
    have:=w4 _ _ _ rH _ _ he
    unfold ml at h
    cases g1:f' 1<;>cases g2:f' 2<;>cases g3:f' 3<;>simp only [g1,g2,g3,cond_true,cond_false] at h<;>first | (cases h;done) | (injection h with h;exact h▸this)
 unfold o9
 split
 ·rename_i s d h
  simp only [TV.ren,ar,cT,hd s d h,rH.fix_ren,Tok.ren]
 ·rename_i a h
  simp only [TV.ren,ar,cT,(ha a h).fix_ren,Tok.ren,bg]

theorem PX {b:Bs} (hb:IsB b):VCx Tryz.prog ae 0 rI [.vec 1 b .none] ⟨[], []⟩ fun x T' =>x=o9 b∧T' =⟨[], []⟩:=by
  have hS:aZ Tryz.prog ae (aC [(rC,EP)]):=aJ fun p hp=>by obtain rfl:=List.mem_singleton.1 hp;exact Nd PH
  refine VCx.toLe (Q:=fun T' =>T' =⟨[], []⟩) (VCx.keepQ 0 0 (Nat.le_refl _) (Nat.le_refl _) ?_)
  cases hR:w3 b with
  | inl e=>
    obtain ⟨s,d⟩:=e
    have hp:vP b false s d 0 0 0 false false [] false false false:= .inl ⟨rfl,hR⟩
    refine ai ac aa hS (C7 hb hp) (K3 b false s d 0 0 0 false false [] false false false _) ?_
    refine ⟨hb,am (fun ho=>⟨rfl,⟨rfl,rfl,rfl,trivial,rfl,rfl,rfl⟩,fun j dz rest tlz hd=>⟨?_,rfl⟩⟩) (fun ho=>⟨?_,rfl⟩)⟩
    · have h1:gF b= .inl (s,d):=by
        unfold gF;rw [ho]
        simp only [cond_true]
        rw [show ei (gg b) (fun _=>false) tr= .inl (s,d) from hR]
      exact mF h1 (hd.le _ _)
    · have h1:gF b= .inl (1, []):=by unfold gF;rw [ho];rfl
      exact mF h1 (.refl _)
  | inr e=>
    obtain ⟨a,f⟩:=e
    have ha:=w4 _ _ _ rH _ _ hR
    obtain ⟨xn,xl,hx,hl⟩:∃(xn:Bool) (xl:Bs),a.x=(bif xn then pY else .vec 1 xl .none)∧∀f g,bg f g xl=xl:=by
      rcases ha with h | ⟨l,h⟩
      · exact ⟨true, [],h,fun _ _=>rfl⟩
      · exact ⟨false,iV l,h,fun f g=>dd f g l⟩
    obtain ⟨o,h,m,hm,x⟩:=a
    simp only at hx
    subst hx
    have hp:vP b true 0 [] o h m hm xn xl (f 1) (f 2) (f 3):= .inr ⟨rfl,f,hR,rfl,rfl,rfl⟩
    have hgo:jm b=true→gF b=ml ⟨o,h,m,hm,bif xn then pY else .vec 1 xl .none⟩ f:=fun ho=>by
      unfold gF;rw [ho]
      simp only [cond_true]
      rw [show ei (gg b) (fun _=>false) tr= .inr (⟨o,h,m,hm,bif xn then pY else .vec 1 xl .none⟩,f) from hR]
    refine ai ac aa hS (C7 hb hp) (K3 b true 0 [] o h m hm xn xl (f 1) (f 2) (f 3) _) ?_
    refine ⟨hb,am (fun ho=>⟨rfl,⟨rfl,rfl,rfl,trivial,rfl,rfl,rfl⟩,fun j c0 rm=> ?_⟩) (fun ho=>⟨?_,rfl⟩)⟩
    · have h2:=hgo ho
      unfold ml at h2
      cases e1:f 1
      · rw [e1] at h2
        cases xn<;>exact ⟨mF h2 (TVle.vec 1 _ _),rfl⟩
      · cases e2:f 2
        · rw [e1,e2] at h2
          cases xn<;>exact ⟨mF h2 (TVle.vec 1 _ _),rfl⟩
        · cases e3:f 3
          · rw [e1,e2,e3] at h2
            cases xn<;>exact ⟨mF h2 (TVle.vec 1 _ _),rfl⟩
          · rw [e1,e2,e3] at h2
            have h3:=Nj h2 ha
            cases xn
            · refine ⟨?_,rfl⟩
              simp only [TV.ren,ar,hl,Tok.ren]
              exact h3
            · exact ⟨h3,rfl⟩
    · have h1:gF b= .inl (1, []):=by unfold gF;rw [ho];rfl
      exact mF h1 (.refl _)

end
section
open Go.RowKit

def gV (b:Bs):Bool:=match gF b with
 | .inr _=>true
 | .inl _=>false
def jf (b:Bs):Int:=match gF b with
 | .inr _=>0
 | .inl e=>e.1
def jI (b:Bs):Bs:=match gF b with
 | .inr _=> []
 | .inl e=>e.2
def k9 (b:Bs):AtS:=match gF b with
 | .inr a=>a.fix
 | .inl _=>tr.fix
def nm (b:Bs):Int:=(k9 b).o
def nn (b:Bs):Int:=(k9 b).h
def np (b:Bs):Int:=(k9 b).m
def nq (b:Bs):Bool:=(k9 b).hm
def jJ (b:Bs):Bs:=match (k9 b).x with
 | .vec _ l _=>l
 | _=> []
theorem SZ (a:AtS):∃l,a.fix.x= .vec 1 l .none:=by
 unfold AtS.fix
 simp only
 split
 ·exact ⟨_,rfl⟩
 ·exact ⟨_,rfl⟩
theorem PY (b:Bs):(k9 b).x= .vec 1 (jJ b) .none:=by
 obtain ⟨l,hl⟩:∃l,(k9 b).x= .vec 1 l .none:=by
  unfold k9
  split<;>exact SZ _
 rw [hl];unfold jJ;rw [hl]
def w6 (b:Bs):TV:= .agg [.val (.int .i64 (nm b)), .vec 1 (jJ b) .none, .val (.int .u32 (nn b)), .val (.int .i64 (np b)), .val (.bool (nq b))]
theorem C8 (b:Bs):(k9 b).tv=w6 b:=by
 unfold AtS.tv w6
 rw [PY];rfl
theorem G0 {b:Bs} (h:gV b=true):o9 b= .tup [w6 b,cT 0 0 []]:=by
 rw [←C8]
 unfold o9 k9
 unfold gV at h
 cases e:gF b with
 | inl x=>rw [e] at h;cases h
 | inr a=>rfl
theorem G1 {b:Bs} (h:gV b=false):o9 b= .tup [tr.fix.tv,cT 3 (jf b) (jI b)]:=by
 unfold o9 jf jI
 unfold gV at h
 cases e:gF b with
 | inl x=>rfl
 | inr a=>rw [e] at h;cases h
theorem J7 {b:Bs} (hb:IsB b) (f g:Nat→Option Nat):(w6 b).ren f g=w6 b:=by
 cases h:gV b
 ·rw [←C8]
  unfold k9
  unfold gV at h
  cases e:gF b with
  | inl x=>exact rH.fix_ren f g
  | inr a=>rw [e] at h;cases h
 ·have h1:=w5 b f g hb
  rw [G0 h] at h1
  simp only [TV.ren,ar] at h1
  injection h1 with h1;injection h1 with h1
theorem ui {b:Bs} (hb:IsB b) (f g:Nat→Option Nat):bg f g (jJ b)=jJ b:=by
 have h:=J7 hb f g
 simp only [w6,TV.ren,ar] at h
 injection h with h;injection h with _ h;injection h with h;injection h with _ h
theorem Bc {b:Bs} (hb:IsB b) (f g:Nat→Option Nat):bg f g (jI b)=jI b:=by
 cases h:gV b
 ·have h1:=w5 b f g hb
  rw [G1 h] at h1
  simp only [TV.ren,ar,cT] at h1
  injection h1 with h1;injection h1 with _ h1;injection h1 with h1;injection h1 with h1;injection h1 with _ h1;injection h1 with _ h1;injection h1 with h1;injection h1 with _ h1
 ·unfold jI
  unfold gV at h
  cases e:gF b with
  | inl x=>rw [e] at h;cases h
  | inr a=>rfl
structure UpS where
 w:Bs
 o:Int
 x:Bs
 h:Int
 m:Int
 hm:Bool
 n:Bs
def UpS.cells (u:UpS):List TV:= [.vec 2 u.w .none, .val (.int .i64 u.o), .vec 1 u.x .none, .val (.int .u32 u.h), .val (.int .i64 u.m), .val (.bool u.hm), .vec 2 u.n .none]
def UpS.tv (u:UpS):TV:= .agg u.cells
def od:UpS:=⟨[],0, [],0,0,false, []⟩
def lP (b:Bs):Bs:=aA (aL 2 b 0) (aA (2:Nat) b 0) (aB (2:Nat) b 0)
def nr (b:Bs):Int:=aB (aL 2 b 0) (aA (2:Nat) b 0) (aB (2:Nat) b 0)
def iy (b:Bs):Bs:=bR (aL 2 b 0) (aA (2:Nat) b 0) (aB (2:Nat) b 0)
def cE (b:Bs):Bs:=bR (aL 2 (lP b) (nr b)) (aA (2:Nat) (lP b) (nr b)) (aB (2:Nat) (lP b) (nr b))
def w7 (b:Bs):Bs:=aA (aL 2 (lP b) (nr b)) (aA (2:Nat) (lP b) (nr b)) (aB (2:Nat) (lP b) (nr b))
def w8 (b:Bs):Int:=aB (aL 2 (lP b) (nr b)) (aA (2:Nat) (lP b) (nr b)) (aB (2:Nat) (lP b) (nr b))
def eQ (b:Bs):Bs:=bR (bp (w7 b) (w8 b)) (w7 b) (w8 b)
def G2 (b:Bs):Int:=aB (bp (w7 b) (w8 b)) (w7 b) (w8 b)
theorem C9 {b:Bs} (h:IsB b):IsB (lP b):=aF (aF h)
theorem PZ {b:Bs} (h:IsB b):IsB (iy b):=gC (aF h)
theorem Bd {b:Bs} (h:IsB b):IsB (cE b):=gC (aF (C9 h))
theorem P0 {b:Bs} (h:IsB b):IsB (eQ b):=gC (aF (aF (C9 h)))
def iz (b:Bs):(Int × Bs) ⊕ UpS:=
 if ¬G2 b=0 then .inl (1, []) else
 bif hZ (iy b) then bif hZ (eQ b) then
  (if (cE b).length=0∧(aY (eQ b)).length=0 then .inr {od with w:=aY (iy b),n:=aY (eQ b)}
  else bif gV (cE b) then (if 0<(aY (eQ b)).length then .inr ⟨aY (iy b),nm (cE b),jJ (cE b),nn (cE b),np (cE b),nq (cE b),aY (eQ b)⟩ else .inr {od with w:=aY (iy b),n:=aY (eQ b)})
  else if 0<(aY (eQ b)).length then .inl (jf (cE b),jI (cE b)) else if jf (cE b)=3 then .inr {od with w:=aY (iy b),n:=aY (eQ b)} else .inl (jf (cE b),jI (cE b)))
 else .inl (10, []) else .inl (10, [])
def Be (p:(Int × Bs) ⊕ UpS):TV:=match p with
 | .inl (s,d)=> .tup [od.tv,cT 3 s d]
 | .inr u=> .tup [u.tv,cT 0 0 []]
def ns (b:Bs):TV:=Be (iz b)
def J8 (u:UpS):Prop:=∀f g,u.tv.ren f g=u.tv
theorem G3 {b:Bs} (hb:IsB b) {u:UpS} (h:iz b= .inr u):J8 u:=by
 have e1:J8 {od with w:=aY (iy b),n:=aY (eQ b)}:=fun f g=>by simp only [UpS.tv,UpS.cells,od,TV.ren,ar,kV,Tok.ren,bg]
 have e2:J8 ⟨aY (iy b),nm (cE b),jJ (cE b),nn (cE b),np (cE b),nq (cE b),aY (eQ b)⟩:=fun f g=>by simp only [UpS.tv,UpS.cells,TV.ren,ar,kV,ui (Bd hb),Tok.ren]
 unfold iz at h
 split at h
 ·cases h
 cases g1:hZ (iy b)<;>simp only [g1,cond_true,cond_false] at h
 ·cases h
 cases g2:hZ (eQ b)<;>simp only [g2,cond_true,cond_false] at h
 ·cases h
 split at h
 ·injection h with h;exact h▸e1
 cases g3:gV (cE b)<;>simp only [g3,cond_true,cond_false] at h
 ·split at h
  ·cases h
  split at h
  ·injection h with h;exact h▸e1
  ·cases h
 ·split at h
  ·injection h with h;exact h▸e2
  ·injection h with h;exact h▸e1
theorem G4 {b:Bs} (hb:IsB b) {s:Int} {d:Bs} (h:iz b= .inl (s,d)) (f g:Nat→Option Nat):bg f g d=d:=by
 have hd:=Bc (Bd hb) f g
 unfold iz at h
 split at h
 ·injection h with h;injection h with _ h;rw [←h];rfl
 cases g1:hZ (iy b)<;>simp only [g1,cond_true,cond_false] at h
 ·injection h with h;injection h with _ h;rw [←h];rfl
 cases g2:hZ (eQ b)<;>simp only [g2,cond_true,cond_false] at h
 ·injection h with h;injection h with _ h;rw [←h];rfl
 split at h
 ·cases h
 cases g3:gV (cE b)<;>simp only [g3,cond_true,cond_false] at h
 ·split at h
  ·injection h with h;injection h with _ h;rw [←h];exact hd
  split at h
  ·cases h
  ·injection h with h;injection h with _ h;rw [←h];exact hd
 ·split at h<;>cases h
theorem Nk {b:Bs} (hb:IsB b) (f g:Nat→Option Nat):(ns b).ren f g=ns b:=by
 unfold ns Be
 split
 ·rename_i s d h
  have:=G4 hb h f g
  simp only [TV.ren,ar,cT,UpS.tv,UpS.cells,od,bg,this,Tok.ren]
 ·rename_i u h
  have:=G3 hb h f g
  simp only [TV.ren,ar,cT,this,bg,Tok.ren]
end
section
open Go.RowKit

abbrev K5:=48
def ET:aV:=fun _ ys T K=>match ys with
 | [.vec 1 b _]=>IsB b∧bif hZ b then K (.tup [.vec 2 (aY b) .none, .val (.bool true)]) T else K (.tup [.vec 2 (aY b) .none, .val (.bool false)]) T
 | _=>aN 83 default ys
def K6:aV:=fun _ ys T K=>match ys with
 | [.vec 1 b _]=>IsB b∧bif gV b then K (.tup [.agg [.val (.int .i64 (nm b)), .vec 1 (jJ b) .none, .val (.int .u32 (nn b)), .val (.int .i64 (np b)), .val (.bool (nq b))], .agg [.val (.int .i64 0), .val (.int .i64 0), .vec 1 [] .none]]) T
  else K (.tup [.agg [.val (.int .i64 0), .vec 1 [] .none, .val (.int .u32 0), .val (.int .i64 0), .val (.bool false)], .agg [.val (.int .i64 3), .val (.int .i64 (jf b)), .vec 1 (jI b) .none]]) T
 | _=>aN 83 default ys
abbrev oe (v:Bs) (v_17:Bs) (v_22:Bs):VO:=(Uw (aY v) (nm v_17) (jJ v_17) (nn v_17) (np v_17) (nq v_17) (aY v_22))
abbrev og (v_17:Bs):VO:=(wO (nm v_17) (jJ v_17) (nn v_17) (np v_17) (nq v_17))
abbrev jw (v_17:Bs):VO:=(I7 (jf v_17) (jI v_17))
abbrev zl (v:Bs) (v_17:Bs) (v_22:Bs):TV:=(Ux (aY v) (nm v_17) (jJ v_17) (nn v_17) (np v_17) (nq v_17) (aY v_22))
theorem S1 (b:Bs) (Q:TV→VT→Prop):au Tryz.prog ae (aC [(lM,gD),(lr,kE .i64 2),(jd,ye),(ED,vA),(iu,kC),(nd,ET),(rI,K6)]) (bc [(999999, .dead,none)]) 300 aK 0 K5 [.vec 1 b .none] aG Q=
 (IsB (b)∧
 (((@Eq (Bool) true true)∧
 IsB (b))∧
 (∀z:Int,(∀bz:Bs,(∀az:Int,(∀ez:Int,(((@Eq (Int) (z) (aL (2:Nat) b (0:Int)))∧
 ((@Eq (Bs) (bz) (aA (↑(2:Nat):Int) b (0:Int)))∧
 (@Eq (Int) (ez) (aB (↑(2:Nat):Int) b (0:Int)))))→(((@Eq (Bool) true true)∧
 IsB (bz))∧
 (∀v:Bs,(∀bz_8:Bs,(∀az_9:Int,(∀ez_10:Int,(((@Eq (Bs) (v) (bR z bz ez))∧
 ((@Eq (Bs) (bz_8) (aA z bz ez))∧
 (@Eq (Int) (ez_10) (aB z bz ez))))→(((@Eq (Bool) true true)∧
 IsB (bz_8))∧
 (∀z_12:Int,(∀bz_13:Bs,(∀az_14:Int,(∀ez_15:Int,(((@Eq (Int) (z_12) (aL (2:Nat) bz_8 ez_10))∧
 ((@Eq (Bs) (bz_13) (aA (↑(2:Nat):Int) bz_8 ez_10))∧
 (@Eq (Int) (ez_15) (aB (↑(2:Nat):Int) bz_8 ez_10))))→(((@Eq (Bool) true true)∧
 IsB (bz_13))∧
 (∀v_17:Bs,(∀bz_18:Bs,(∀az_19:Int,(∀ez_20:Int,(((@Eq (Bs) (v_17) (bR z_12 bz_13 ez_15))∧
 ((@Eq (Bs) (bz_18) (aA z_12 bz_13 ez_15))∧
 (@Eq (Int) (ez_20) (aB z_12 bz_13 ez_15))))→(((@Eq (Bool) true true)∧
 IsB (bz_18))∧
 (∀v_22:Bs,(∀bz_23:Bs,(∀az_24:Int,(∀ez_25:Int,(((@Eq (Bs) (v_22) (bR (bp bz_18 ez_20) bz_18 ez_20))∧
 ((@Eq (Bs) (bz_23) (aA (bp bz_18 ez_20) bz_18 ez_20))∧
 (@Eq (Int) (ez_25) (aB (bp bz_18 ez_20) bz_18 ez_20))))→(((@Eq (Bool) true true)∧
 IsB (bz_23))∧
 (bif av BinOp.neq (k6 ez_25 (0:Int))
 then Q (.tup [I6,KJ]) ⟨[m8,AA,(.cells [ax,(aI bz_23),(ak az_24),(ak ez_25)]),fZ,m8,AA], []⟩
 else (IsB (v)∧
 (bif hZ v
 then (IsB (v_22)∧
 (bif hZ v_22
 then (bif av BinOp.eql (k6 (↑(List.length v_17):Int) (0:Int))
 then (bif av BinOp.eql (k6 (↑(List.length (aY v_22)):Int) (0:Int))
 then Q (tW (aY v) (aY v_22)) ⟨[(gS (aY v) (aY v_22)),cg,(.cells [ax,(aI bz_23),(ak az_24),(ak ez_25)]),fZ,(gS (aY v) (aY v_22)),(gu v),(gR v_22)], []⟩
 else (IsB (v_17)∧
 (bif gV v_17
 then (bif decide ((↑(List.length (aY v_22)):Int)>(0:Int))
 then (bif decide ((↑(List.length (aY v_22)):Int)>(0:Int))
 then Q (zl v v_17 v_22) ⟨[(oe v v_17 v_22),cg,(.cells [ax,(aI bz_23),(ak az_24),(ak ez_25)]),fZ,(oe v v_17 v_22),(gu v),(gR v_22),(og v_17),dM], []⟩
 else Q (tW (aY v) (aY v_22)) ⟨[(gS (aY v) (aY v_22)),cg,(.cells [ax,(aI bz_23),(ak az_24),(ak ez_25)]),fZ,(gS (aY v) (aY v_22)),(gu v),(gR v_22),(og v_17),dM], []⟩)
 else (bif decide ((↑(List.length (aY v_22)):Int)>(0:Int))
 then Q (zl v v_17 v_22) ⟨[(oe v v_17 v_22),cg,(.cells [ax,(aI bz_23),(ak az_24),(ak ez_25)]),fZ,(oe v v_17 v_22),(gu v),(gR v_22),(og v_17),dM], []⟩
 else Q (tW (aY v) (aY v_22)) ⟨[(gS (aY v) (aY v_22)),cg,(.cells [ax,(aI bz_23),(ak az_24),(ak ez_25)]),fZ,(gS (aY v) (aY v_22)),(gu v),(gR v_22),(og v_17),dM], []⟩))
 else (bif decide ((↑(List.length (aY v_22)):Int)>(0:Int))
 then Q (Ez (jf v_17) (jI v_17)) ⟨[m8,(jw v_17),(.cells [ax,(aI bz_23),(ak az_24),(ak ez_25)]),fZ,(gS (aY v) (aY v_22)),(gu v),(gR v_22),rh,(jw v_17)], []⟩
 else (bif av BinOp.neq (k6 (jf v_17) (3:Int))
 then Q (Ez (jf v_17) (jI v_17)) ⟨[m8,(jw v_17),(.cells [ax,(aI bz_23),(ak az_24),(ak ez_25)]),fZ,(gS (aY v) (aY v_22)),(gu v),(gR v_22),rh,(jw v_17)], []⟩
 else (bif decide ((↑(List.length (aY v_22)):Int)>(0:Int))
 then Q (OV (aY v) (aY v_22)) ⟨[(Ey (aY v) (aY v_22)),cg,(.cells [ax,(aI bz_23),(ak az_24),(ak ez_25)]),fZ,(Ey (aY v) (aY v_22)),(gu v),(gR v_22),rh,(jw v_17)], []⟩
 else Q (tW (aY v) (aY v_22)) ⟨[(gS (aY v) (aY v_22)),cg,(.cells [ax,(aI bz_23),(ak az_24),(ak ez_25)]),fZ,(gS (aY v) (aY v_22)),(gu v),(gR v_22),rh,(jw v_17)], []⟩))))))
 else (IsB (v_17)∧
 (bif gV v_17
 then (bif decide ((↑(List.length (aY v_22)):Int)>(0:Int))
 then (bif decide ((↑(List.length (aY v_22)):Int)>(0:Int))
 then Q (zl v v_17 v_22) ⟨[(oe v v_17 v_22),cg,(.cells [ax,(aI bz_23),(ak az_24),(ak ez_25)]),fZ,(oe v v_17 v_22),(gu v),(gR v_22),(og v_17),dM], []⟩
 else Q (tW (aY v) (aY v_22)) ⟨[(gS (aY v) (aY v_22)),cg,(.cells [ax,(aI bz_23),(ak az_24),(ak ez_25)]),fZ,(gS (aY v) (aY v_22)),(gu v),(gR v_22),(og v_17),dM], []⟩)
 else (bif decide ((↑(List.length (aY v_22)):Int)>(0:Int))
 then Q (zl v v_17 v_22) ⟨[(oe v v_17 v_22),cg,(.cells [ax,(aI bz_23),(ak az_24),(ak ez_25)]),fZ,(oe v v_17 v_22),(gu v),(gR v_22),(og v_17),dM], []⟩
 else Q (tW (aY v) (aY v_22)) ⟨[(gS (aY v) (aY v_22)),cg,(.cells [ax,(aI bz_23),(ak az_24),(ak ez_25)]),fZ,(gS (aY v) (aY v_22)),(gu v),(gR v_22),(og v_17),dM], []⟩))
 else (bif decide ((↑(List.length (aY v_22)):Int)>(0:Int))
 then Q (Ez (jf v_17) (jI v_17)) ⟨[m8,(jw v_17),(.cells [ax,(aI bz_23),(ak az_24),(ak ez_25)]),fZ,(gS (aY v) (aY v_22)),(gu v),(gR v_22),rh,(jw v_17)], []⟩
 else (bif av BinOp.neq (k6 (jf v_17) (3:Int))
 then Q (Ez (jf v_17) (jI v_17)) ⟨[m8,(jw v_17),(.cells [ax,(aI bz_23),(ak az_24),(ak ez_25)]),fZ,(gS (aY v) (aY v_22)),(gu v),(gR v_22),rh,(jw v_17)], []⟩
 else (bif decide ((↑(List.length (aY v_22)):Int)>(0:Int))
 then Q (OV (aY v) (aY v_22)) ⟨[(Ey (aY v) (aY v_22)),cg,(.cells [ax,(aI bz_23),(ak az_24),(ak ez_25)]),fZ,(Ey (aY v) (aY v_22)),(gu v),(gR v_22),rh,(jw v_17)], []⟩
 else Q (tW (aY v) (aY v_22)) ⟨[(gS (aY v) (aY v_22)),cg,(.cells [ax,(aI bz_23),(ak az_24),(ak ez_25)]),fZ,(gS (aY v) (aY v_22)),(gu v),(gR v_22),rh,(jw v_17)], []⟩))))))
 else Q OU ⟨[m8,Ex,(.cells [ax,(aI bz_23),(ak az_24),(ak ez_25)]),fZ,(.cells [(eX (aY v)),aD,aO,cl,aD,aj,aO]),(gu v),(gR v_22),m8,Ex], []⟩))
 else Q OU ⟨[m8,Ex,(.cells [ax,(aI bz_23),(ak az_24),(ak ez_25)]),fZ,m8,(gu v),m8,Ex], []⟩))))))))))))))))))))))))))))))))))):=by kernel_rfl
end
section
open Go.RowKit

theorem Nl {f:FuncId} (h:∀b,IsB b→VCx Tryz.prog ae 0 f [.vec 1 b .none] ⟨[], []⟩ fun x T' =>x=yc b∧T' =⟨[], []⟩):∀ro ys T K,ET ro ys T K→VCx Tryz.prog ae ro f ys T K:=by
 intro ro ys T K hw
 unfold ET at hw
 split at hw
 ·rename_i b tok
  refine VCx.loosePure aq (h b hw.1) (by simp [bG]) (by simp [ar,TV.ren,hw.1.ren,Tok.ren]) (fun f h=>MP b f h) ?_
  have h2:=hw.2
  unfold yc
  cases hh:hZ b<;>rw [hh] at h2<;>exact h2
 ·exact hw.elim
theorem P1 {f:FuncId} (h:∀{b:Bs},IsB b→VCx Tryz.prog ae 0 f [.vec 1 b .none] ⟨[], []⟩ fun x T' =>x=o9 b∧T' =⟨[], []⟩):∀ro ys T K,K6 ro ys T K→VCx Tryz.prog ae ro f ys T K:=by
 intro ro ys T K hw
 unfold K6 at hw
 split at hw
 ·rename_i b tok
  refine VCx.loosePure aq (h hw.1) (by simp [bG]) (by simp [ar,TV.ren,hw.1.ren,Tok.ren]) (fun f h=>w5 b f h hw.1) ?_
  have h2:=hw.2
  cases hh:gV b<;>rw [hh] at h2
  ·rw [G1 hh];exact h2
  ·rw [G0 hh];exact h2
 ·exact hw.elim
theorem K7 {n:Nat} (h:decide ((n:Int)>0)=true):0<n:=by
 have:=of_decide_eq_true h;omega
theorem w9 {n:Nat} (h:decide ((n:Int)>0)=false):¬0<n:=by
 have:=of_decide_eq_false h;omega
section
variable {b:Bs}
theorem nt {s:Int} {d:Bs} {dz:TV} {T' :VT} (h:iz b= .inl (s,d)) (hd:TVle (dz.ren (aw 0) (aw 0)) (.vec 1 d .none)):TVle ((TV.tup [.agg [.val (.slice none 0 0), .val (.int .i64 0), .val (.slice none 0 0), .val (.int .u32 0), .val (.int .i64 0), .val (.bool false), .val (.slice none 0 0)], .agg [.val (.int .i64 3), .val (.int .i64 s),dz]]).ren (aw 0) (aw 0)) (ns b)∧T'.keep 0 0=⟨[], []⟩:=by
 unfold ns Be
 rw [h]
 exact ⟨.tup ⟨.agg ⟨.nil 2, .refl _, .nil 1, .refl _, .refl _, .refl _, .nil 2,trivial⟩, .agg ⟨.refl _, .refl _,hd,trivial⟩,trivial⟩,rfl⟩
theorem pc {T' :VT} {pz:TV} (hG:IsB (iy b)) (hN:IsB (eQ b)) (h:iz b= .inr {od with w:=aY (iy b),n:=aY (eQ b)}) (hp:TVle (pz.ren (aw 0) (aw 0)) (.vec 1 [] .none)):TVle ((TV.tup [.agg [.vec 2 (aY (iy b)) .none, .val (.int .i64 0),pz, .val (.int .u32 0), .val (.int .i64 0), .val (.bool false), .vec 2 (aY (eQ b)) .none], .agg [.val (.int .i64 0), .val (.int .i64 0), .val (.slice none 0 0)]]).ren (aw 0) (aw 0)) (ns b)∧T'.keep 0 0=⟨[], []⟩:=by
 unfold ns Be
 rw [h]
 refine ⟨?_,rfl⟩
 simp only [TV.ren,ar,kV,Tok.ren]
 exact .tup ⟨.agg ⟨.refl _, .refl _,hp, .refl _, .refl _, .refl _, .refl _,trivial⟩, .agg ⟨.refl _, .refl _, .nil 1,trivial⟩,trivial⟩
theorem Da {T' :VT} (hG:IsB (iy b)) (hA:IsB (cE b)) (hN:IsB (eQ b)) (h:iz b= .inr ⟨aY (iy b),nm (cE b),jJ (cE b),nn (cE b),np (cE b),nq (cE b),aY (eQ b)⟩):TVle ((TV.tup [.agg [.vec 2 (aY (iy b)) .none, .val (.int .i64 (nm (cE b))), .vec 1 (jJ (cE b)) .none, .val (.int .u32 (nn (cE b))), .val (.int .i64 (np (cE b))), .val (.bool (nq (cE b))), .vec 2 (aY (eQ b)) .none], .agg [.val (.int .i64 0), .val (.int .i64 0), .val (.slice none 0 0)]]).ren (aw 0) (aw 0)) (ns b)∧T'.keep 0 0=⟨[], []⟩:=by
 unfold ns Be
 rw [h]
 refine ⟨?_,rfl⟩
 simp only [TV.ren,ar,kV,ui hA,Tok.ren]
 exact .tup ⟨.refl _, .agg ⟨.refl _, .refl _, .nil 1,trivial⟩,trivial⟩
end
theorem P2 {b:Bs} {z ez z2 e2 z3 e3 e4 e5 e6:Int} {r1 v r2 r3 a r4 n:Bs} (h1:z=aL (2:Nat) b 0∧r1=aA ((2:Nat):Int) b 0∧ez=aB ((2:Nat):Int) b 0) (h2:v=bR z r1 ez∧r2=aA z r1 ez∧e2=aB z r1 ez) (h3:z3=aL (2:Nat) r2 e2∧r3=aA ((2:Nat):Int) r2 e2∧e3=aB ((2:Nat):Int) r2 e2) (h4:a=bR z3 r3 e3∧r4=aA z3 r3 e3∧e4=aB z3 r3 e3) (h5:n=bR (bp r4 e4) r4 e4∧e5=aB (bp r4 e4) r4 e4):
  v=iy b∧a=cE b∧n=eQ b∧e5=G2 b:=by
 obtain ⟨rfl,rfl,rfl⟩:=h1
 obtain ⟨rfl,rfl,rfl⟩:=h2
 obtain ⟨rfl,rfl,rfl⟩:=h3
 obtain ⟨rfl,rfl,rfl⟩:=h4
 obtain ⟨rfl,rfl⟩:=h5
 exact ⟨rfl,rfl,rfl,rfl⟩

theorem P3 {b:Bs} (hb:IsB b):VCx Tryz.prog ae 0 K5 [.vec 1 b .none] ⟨[], []⟩ fun x T' =>x=ns b∧T' =⟨[], []⟩:=by
  have hS:aZ Tryz.prog ae (aC [(lM,gD),(lr,kE .i64 2),(jd,ye),(ED,vA),(iu,kC),(nd,ET),(rI,K6)]):=aJ fun p hp=>by
    rcases List.mem_cons.1 hp with rfl | hp;exact mE
    rcases List.mem_cons.1 hp with rfl | hp;exact fun ro ys T K h=>sL _ _ _ _ (lE h)
    rcases List.mem_cons.1 hp with rfl | hp;exact fun ro ys T K h=>rq _ _ _ _ (AM h)
    rcases List.mem_cons.1 hp with rfl | hp;exact fun ro ys T K h=>Pf _ _ _ _ (Gw h)
    rcases List.mem_cons.1 hp with rfl | hp;exact o5
    rcases List.mem_cons.1 hp with rfl | hp;exact Nl fun _ h=>Pq h
    obtain rfl:=List.mem_singleton.1 hp;exact P1 PX
  refine VCx.toLe (Q:=fun T' =>T' =⟨[], []⟩) (VCx.keepQ 0 0 (Nat.le_refl _) (Nat.le_refl _) (ai ac aa hS ah (S1 b _) ?_))
  refine ⟨hb,⟨rfl,hb⟩, ?_⟩
  intro z bz az ez hq1
  have hbz:IsB bz:=by rw [hq1.2.1];exact aF hb
  refine ⟨⟨rfl,hbz⟩, ?_⟩
  intro v b2 a2 e2 hq2
  have hb2:IsB b2:=by rw [hq2.2.1];exact aF hbz
  refine ⟨⟨rfl,hb2⟩, ?_⟩
  intro z3 b3 a3 e3 hq3
  have hb3:IsB b3:=by rw [hq3.2.1];exact aF hb2
  refine ⟨⟨rfl,hb3⟩, ?_⟩
  intro v4 b4 a4 e4 hq4
  have hb4:IsB b4:=by rw [hq4.2.1];exact aF hb3
  refine ⟨⟨rfl,hb4⟩, ?_⟩
  intro v5 b5 a5 e5 hq5
  have hb5:IsB b5:=by rw [hq5.2.1];exact aF hb4
  refine ⟨⟨rfl,hb5⟩, ?_⟩
  obtain ⟨rfl,rfl,rfl,rfl⟩:=P2 (z2:=0) (e6:=0) hq1 hq2 hq3 hq4 ⟨hq5.1,hq5.2.2⟩
  have hG:=PZ hb
  have hA:=Bd hb
  have hN:=P0 hb
  have hL:∀(c:Bs) f g,bg f g (aY c)=aY c:=fun c f g=>kV c f g
  have hP:=fun f g=>ui hA f g
  have hD:=fun f g=>Bc hA f g
  refine am (fun c1=> ?_) (fun c1=> ?_)
  · exact nt (by unfold iz;rw [if_pos (eM c1)]) (.nil 1)
  replace c1:G2 b=0:=eO c1
  refine ⟨hG,am (fun c2=> ?_) (fun c2=> ?_)⟩
  rotate_left
  · exact nt (by unfold iz;rw [if_neg (fun c=>c c1),c2];rfl) (.nil 1)
  refine ⟨hN,am (fun c3=> ?_) (fun c3=> ?_)⟩
  rotate_left
  · exact nt (by unfold iz;rw [if_neg (fun c=>c c1),c2,c3];rfl) (.nil 1)
  have hu:iz b=(if (cE b).length=0∧(aY (eQ b)).length=0 then .inr {od with w:=aY (iy b),n:=aY (eQ b)}
    else bif gV (cE b) then (if 0<(aY (eQ b)).length then .inr ⟨aY (iy b),nm (cE b),jJ (cE b),nn (cE b),np (cE b),nq (cE b),aY (eQ b)⟩ else .inr {od with w:=aY (iy b),n:=aY (eQ b)})
    else if 0<(aY (eQ b)).length then .inl (jf (cE b),jI (cE b)) else if jf (cE b)=3 then .inr {od with w:=aY (iy b),n:=aY (eQ b)} else .inl (jf (cE b),jI (cE b))):=by
    unfold iz;rw [if_neg (fun c=>c c1),c2,c3];rfl
  refine am (fun c4=> ?_) (fun c4=> ?_)
  · replace c4:=dP c4
    refine am (fun c5=> ?_) (fun c5=> ?_)
    · exact pc hG hN (by rw [hu,if_pos ⟨Int.ofNat_inj.1 c4,Int.ofNat_inj.1 (dP c5)⟩]) (.nil 1)
    have hne:¬((cE b).length=0∧(aY (eQ b)).length=0):=fun h=>di c5 (Int.ofNat_inj.2 h.2)
    refine ⟨hA,am (fun c6=> ?_) (fun c6=> ?_)⟩
    · refine am (fun c7=> ?_) (fun c7=> ?_)
      · exact aQ c7 (Da hG hA hN (by rw [hu,if_neg hne,c6];simp only [cond_true];rw [if_pos (K7 c7)]))
      · exact aM c7 (pc hG hN (by rw [hu,if_neg hne,c6];simp only [cond_true];rw [if_neg (w9 c7)]) (.nil 1))
    · refine am (fun c7=> ?_) (fun c7=> ?_)
      · exact nt (by rw [hu,if_neg hne,c6];simp only [cond_false];rw [if_pos (K7 c7)]) (by simp only [TV.ren,hD,Tok.ren];exact .refl _)
      refine am (fun c8=> ?_) (fun c8=> ?_)
      · exact nt (by rw [hu,if_neg hne,c6];simp only [cond_false];rw [if_neg (w9 c7),if_neg (eM c8)]) (by simp only [TV.ren,hD,Tok.ren];exact .refl _)
      · exact aM c7 (pc hG hN (by rw [hu,if_neg hne,c6];simp only [cond_false];rw [if_neg (w9 c7),if_pos (eO c8)]) (.nil 1))
  · have hne:¬((cE b).length=0∧(aY (eQ b)).length=0):=fun h=>di c4 (Int.ofNat_inj.2 h.1)
    refine ⟨hA,am (fun c6=> ?_) (fun c6=> ?_)⟩
    · refine am (fun c7=> ?_) (fun c7=> ?_)
      · exact aQ c7 (Da hG hA hN (by rw [hu,if_neg hne,c6];simp only [cond_true];rw [if_pos (K7 c7)]))
      · exact aM c7 (pc hG hN (by rw [hu,if_neg hne,c6];simp only [cond_true];rw [if_neg (w9 c7)]) (.nil 1))
    · refine am (fun c7=> ?_) (fun c7=> ?_)
      · exact nt (by rw [hu,if_neg hne,c6];simp only [cond_false];rw [if_pos (K7 c7)]) (by simp only [TV.ren,hD,Tok.ren];exact .refl _)
      refine am (fun c8=> ?_) (fun c8=> ?_)
      · exact nt (by rw [hu,if_neg hne,c6];simp only [cond_false];rw [if_neg (w9 c7),if_neg (eM c8)]) (by simp only [TV.ren,hD,Tok.ren];exact .refl _)
      · exact aM c7 (pc hG hN (by rw [hu,if_neg hne,c6];simp only [cond_false];rw [if_neg (w9 c7),if_pos (eO c8)]) (.nil 1))

end
section
open Go.RowKit

def FzLe (T:VT) (x y:TV) (T2:VT):Prop:=∀g w u,RW g T w→VR g w x u→∃g',Evo g w g' w∧RW g' T2 w∧VR g' w y u
def FzL (T:VT) (l m:List TV) (T2:VT):Prop:=∀g w us,RW g T w→VRs g w l us→∃g',Evo g w g' w∧RW g' T2 w∧VRs g' w m us
theorem FzLe.le {T:VT} {x y:TV} (h:TVle x y):FzLe T x y T:=fun g w u r hv=>⟨g,Evo.refl g w,r,h g w u hv⟩
theorem FzLe.row {T:VT} {id size off n:Nat} {es:List (List TV)} (h:bQ T size (.row size id off n)=some es):FzLe T (.row size id off n) (.vec size es .none) (T.kill id):=fun g w u r hv=>mh r h hv
theorem FzL.nil {T:VT}:FzL T [] [] T:=fun g w us r hv=>⟨g,Evo.refl g w,r,hv⟩
theorem FzL.cons {T T1 T2:VT} {x y:TV} {l m:List TV} (h1:FzLe T x y T1) (h2:FzL T1 l m T2):FzL T (x::l) (y::m) T2:=by
 intro g w us r hv
 match us,hv with
 | [],hv=>have:=hv.1;simp at this
 | u::us,hv=>
  have hu:VR g w x u:=hv.2 0 x u rfl rfl
  have hus:VRs g w l us:=⟨by have:=hv.1;simpa using this,fun j a v ha hv2=>hv.2 (j+1) a v (by simpa using ha) (by simpa using hv2)⟩
  obtain ⟨g1,e1,r1,v1⟩:=h1 g w u r hu
  obtain ⟨g2,e2,r2,v2⟩:=h2 g1 w us r1 (hus.mono e1)
  exact ⟨g2,e1.trans e2,r2,VRs.cons (v1.mono e2) v2⟩
theorem FzL.le {T T2:VT} {x:TV} {l m:List TV} (h2:FzL T l m T2):FzL T (x::l) (x::m) T2:=FzL.cons (.le (.refl x)) h2
theorem FzLe.agg {T T2:VT} {l m:List TV} (h:FzL T l m T2):FzLe T (.agg l) (.agg m) T2:=fun g w u r hv=>by
 cases hv with
 | agg hl hv=>
  obtain ⟨g',e',r',h1,h2⟩:=h g w _ r ⟨hl,hv⟩
  exact ⟨g',e',r', .agg h1 h2⟩
theorem FzLe.tup {T T2:VT} {l m:List TV} (h:FzL T l m T2):FzLe T (.tup l) (.tup m) T2:=fun g w u r hu=>by
 obtain ⟨us,rfl,hv⟩:=hu.tup_inv
 obtain ⟨g',e',r',h1,h2⟩:=h g w _ r hv
 exact ⟨g',e',r', .tup h1 h2⟩
theorem VCx.toFz {P:Program} {G:aU} {f:FuncId} {xs:List TV} {T:VT} {y:TV} {Q:VT→Prop} (h:VCx P G 0 f xs T fun x T' =>∃T2,FzLe T' x y T2∧T'.objs.length≤T2.objs.length∧Q T2):VCx P G 0 f xs T fun x T' =>x=y∧Q T' :=by
 intro g w us rw0 hG hx
 refine Calls.mono (h g w us rw0 hG hx) ?_
 rintro e w' ⟨v,x,g',T',he,⟨T2,hq,hl,hQ⟩,e',r',hv,hfx⟩
 obtain ⟨g2,e2,r2,v2⟩:=hq g' w' v r' hv
 exact ⟨v,_,g2,T2,he,⟨rfl,hQ⟩,e'.trans e2,r2,v2,⟨Nat.le_trans hfx.len hl,fun i hi=>absurd hi (Nat.not_lt_zero i),fun i o b hi=>absurd hi (Nat.not_lt_zero i)⟩⟩
theorem VCx.anyG {P:Program} {G:aU} {ro:Nat} {f:FuncId} {xs:List TV} {T:VT} {Q:TV→VT→Prop} (h:VCx P (fun _=>none) ro f xs T Q):VCx P G ro f xs T Q:=fun g w us rw0 _ hx=>h g w us rw0 (fun n cs hn=>by cases hn) hx
end
section
open Go.ChangeShapes Go.WideShapes Go.ChangeAt Go.RowKit Go.Joins Go.Deep

section
variable {H:Type} {enc:TypeId × Value→H} {P:Program} {w:World} {base:Nat} {spare:Nat→Bool} {held:Bool}
end
end
section
open Go.ChangeShapes Go.WideShapes Go.ChangeAt Go.RowKit Go.Joins

theorem J9:ownKnob Tryz.prog.godebug=none:=by kernel_rfl
theorem rJ:laidOutB Tryz.prog=true:=by kernel_rfl

end
section
open Go.ChangeShapes Go.WideShapes Go.ChangeAt Go.RowKit Go.Joins Go.Deep

def cL:aU:=fun n=>bif Nat.beq n 0 then some [.val (.int .i64 0), .val (.int .i64 29), .val (.int .i64 23), .val (.int .i64 21), .val (.int .i64 19)] else none
theorem fJ:dl cL:=fun n cs h=>by
 unfold cL at h
 cases hb:Nat.beq n 0 with
 | false=>rw [hb] at h;cases h
 | true=>
  rw [hb] at h
  injection h with h;subst h
  exact ⟨[.int .i64 0, .int .i64 29, .int .i64 23, .int .i64 21, .int .i64 19],rfl⟩
def nu:List Int:= [0,29,23,21,19]
theorem vQ:Tryz.prog.globalNamed "fairway/message.least" =some 0:=by kernel_rfl
theorem G5 {w:World} (h:Lib.TabIs Tryz.prog w "fairway/message.least" .i64 nu):GOk cL (kf w) w:=by
 intro n cs hn
 unfold cL at hn
 cases hb:Nat.beq n 0 with
 | false=>rw [hb] at hn;cases hn
 | true=>
  rw [hb] at hn
  have:=Nat.eq_of_beq_eq_true hb
  subst this
  injection hn with hn;subst hn
  have cell:∀(j:Nat) u,(nu.map fun z=>Value.int .i64 z)[j]?=some u→w.cell? ⟨0,0+j,none⟩=some u:=fun j u hj=>by
   have hlt:j<nu.length:=by
    have:=(List.getElem?_eq_some_iff.1 hj).1
    simpa using this
   have h1:=h.cell vQ j hlt
   rw [Nat.zero_add,h1,←hj,List.getElem?_map,List.getD_eq_getElem?_getD,List.getElem?_eq_getElem hlt]
   rfl
  refine VR.mk_elt (us:=nu.map fun z=>Value.int .i64 z) (VRs.vals (kf w) w [.int .i64 0, .int .i64 29, .int .i64 23, .int .i64 21, .int .i64 19]) (fun j hj=> ?_) cell (fun u hu=> ?_)
  ·show (w.cell? ⟨_,0+j,none⟩).isSome=true
   have hj' :j<(nu.map fun z=>Value.int .i64 z).length:=hj
   rw [cell j _ (List.getElem?_eq_getElem hj')];rfl
  ·obtain ⟨z,_,rfl⟩:=List.mem_map.1 hu
   rfl
end
section
open Go.RowKit

def iA (b:Bs):Bool:=(b.take 16).all fun r=>decide (eJ r=255)
def lG (b:Bs):Int:=cj 2 (b.drop 16)
def pd (b:Bs):Int:=eJ ((b.drop 18).headD [])
def oh (b:Bs):Bs:=(b.drop 16).take 2
def K8 (b:Bs):Bs:=(b.drop 18).take 1
def uj (k:Int):Int:=if k=1 then 29 else if k=2 then 23 else if k=3 then 21 else 19
def jq (b:Bs):(Int × Bs) ⊕ (Int × Int):=
 if b.length<19 then .inr (0,0) else bif iA b then
  (if lG b<19∨lG b>4096 then .inl (2,oh b) else if pd b<1∨pd b>4 then .inl (3,K8 b)
  else if lG b<uj (pd b)∨(pd b=4∧¬lG b=19) then .inl (2,oh b) else .inr (lG b,pd b))
 else .inl (1, [])
def eR (b:Bs):Bool:=match jq b with
 | .inr _=>true
 | .inl _=>false
def tz (b:Bs):Int:=match jq b with
 | .inr p=>p.1
 | .inl _=>0
def dQ (b:Bs):Int:=match jq b with
 | .inr p=>p.2
 | .inl _=>0
def pf (b:Bs):Int:=match jq b with
 | .inr _=>0
 | .inl p=>p.1
def nw (b:Bs):Bs:=match jq b with
 | .inr _=> []
 | .inl p=>p.2
def G6 (p:(Int × Bs) ⊕ (Int × Int)):TV:=match p with
 | .inl (s,d)=> .tup [.val (.int .i64 0), .val (.int .i64 0),cT 1 s d]
 | .inr (n,k)=> .tup [.val (.int .i64 n), .val (.int .i64 k),cT 0 0 []]
def qn (b:Bs):TV:=G6 (jq b)
theorem G7 {b:Bs} (hb:IsB b):IsB (nw b):=by
 have h1:IsB (oh b):=(hb.drop 16).take 2
 have h2:IsB (K8 b):=(hb.drop 18).take 1
 unfold nw jq
 split
 ·exact .nil
 ·rename_i p hp
  split at hp
  ·cases hp
  cases h:iA b<;>rw [h] at hp<;>simp only [cond_true,cond_false] at hp
  ·injection hp with hp;rw [←hp];exact .nil
  split at hp
  ·injection hp with hp;rw [←hp];exact h1
  split at hp
  ·injection hp with hp;rw [←hp];exact h2
  split at hp
  ·injection hp with hp;rw [←hp];exact h1
  ·cases hp
theorem G8 {b:Bs} (h:eR b=true):qn b= .tup [.val (.int .i64 (tz b)), .val (.int .i64 (dQ b)),cT 0 0 []]:=by
 unfold qn G6 tz dQ
 unfold eR at h
 cases e:jq b with
 | inl x=>rw [e] at h;cases h
 | inr p=>rfl
theorem G9 {b:Bs} (h:eR b=false):qn b= .tup [.val (.int .i64 0), .val (.int .i64 0),cT 1 (pf b) (nw b)]:=by
 unfold qn G6 pf nw
 unfold eR at h
 cases e:jq b with
 | inl x=>rfl
 | inr p=>rw [e] at h;cases h
theorem Db {b:Bs} (hb:IsB b) (f g:Nat→Option Nat):(qn b).ren f g=qn b:=by
 cases h:eR b
 ·rw [G9 h];simp only [TV.ren,ar,cT,(G7 hb).ren,Tok.ren]
 ·rw [G8 h];simp only [TV.ren,ar,cT,bg,Tok.ren]
structure OpS where
 n:Int
 h:Int
 i:Int
 l:Bs
def Ha:OpS:=⟨0,0,0, []⟩
def OpS.cells (o:OpS):List TV:= [.val (.int .i64 o.n), .val (.int .i64 o.h), .val (.int .u32 o.i), .vec 2 o.l .none]
def UP (x:TV):(Int × Bs) ⊕ OpS:=match x with
 | .tup [.agg [.val (.int _ n), .val (.int _ h), .val (.int _ i), .vec _ l _], .agg [.val (.int _ c), .val (.int _ s), .vec _ d _]]=>if c=0 then .inr ⟨n,h,i,l⟩ else .inl (s,d)
 | _=> .inl (0, [])
def qo (b:Bs) (pas:Int):(Int × Bs) ⊕ OpS:=UP (kF b pas)
def P4 (p:(Int × Bs) ⊕ OpS):TV:=match p with
 | .inl (s,d)=> .tup [.agg Ha.cells,cT 2 s d]
 | .inr o=> .tup [.agg o.cells,cT 0 0 []]
theorem uo (b:Bs) (pas:Int) (hb:IsB b):(∃s d,kF b pas=dO s d∧∀f g,bg f g d=d)∨(∃n h i l,kF b pas=rB n h i l∧∀f g,bg f g l=l):=by
 unfold kF
 split
 ·exact .inl ⟨_,_,rfl,fun _ _=>rfl⟩
 split
 ·exact .inl ⟨_,_,rfl,fun _ _=>rfl⟩
 unfold zb fR
 split
 ·exact .inl ⟨_,_,rfl,fun _ _=>rfl⟩
 split
 ·exact .inl ⟨_,_,rfl,fun _ _=>rfl⟩
 split
 ·exact .inl ⟨_,_,rfl,fun _ _=>rfl⟩
 split
 ·exact .inl ⟨_,_,rfl,fun _ _=>rfl⟩
 split
 ·exact .inl ⟨_,_,rfl,fun _ _=>rfl⟩
 cases h:gf _ _
 ·exact .inl ⟨_,_,rfl,fun _ _=>rfl⟩
 ·exact .inr ⟨_,_,_,_,rfl,fun f g=>kY (aF (aF (aF (aF (aF hb))))) _ f g⟩
theorem Hb (b:Bs) (pas:Int) (hb:IsB b):kF b pas=P4 (qo b pas):=by
 unfold qo
 rcases uo b pas hb with ⟨s,d,h,_⟩ | ⟨n,hh,i,l,h,_⟩<;>rw [h]<;>rfl
def iB (b:Bs) (pas:Int):Bool:=match qo b pas with
 | .inr _=>true
 | .inl _=>false
def qp (b:Bs) (pas:Int):OpS:=match qo b pas with
 | .inr o=>o
 | .inl _=>Ha
def Ka (b:Bs) (pas:Int):Int:=(qp b pas).n
def Kb (b:Bs) (pas:Int):Int:=(qp b pas).h
def Kc (b:Bs) (pas:Int):Int:=(qp b pas).i
def rK (b:Bs) (pas:Int):Bs:=(qp b pas).l
def up (b:Bs) (pas:Int):Int:=match qo b pas with
 | .inr _=>0
 | .inl p=>p.1
def oE (b:Bs) (pas:Int):Bs:=match qo b pas with
 | .inr _=> []
 | .inl p=>p.2
theorem Hc {b:Bs} {pas:Int} (hb:IsB b) (h:iB b pas=true):kF b pas= .tup [.agg (qp b pas).cells,cT 0 0 []]:=by
 rw [Hb b pas hb]
 unfold P4 qp
 unfold iB at h
 cases e:qo b pas with
 | inl x=>rw [e] at h;cases h
 | inr p=>rfl
theorem Hd {b:Bs} {pas:Int} (hb:IsB b) (h:iB b pas=false):kF b pas= .tup [.agg Ha.cells,cT 2 (up b pas) (oE b pas)]:=by
 rw [Hb b pas hb]
 unfold P4 up oE
 unfold iB at h
 cases e:qo b pas with
 | inl x=>rfl
 | inr p=>rw [e] at h;cases h
theorem Bf {b:Bs} (pas:Int) (hb:IsB b) (f g:Nat→Option Nat):bg f g (oE b pas)=oE b pas:=by
 unfold oE qo
 rcases uo b pas hb with ⟨s,d,h,h2⟩ | ⟨n,hh,i,l,h,h2⟩<;>rw [h]
 ·exact h2 f g
 ·rfl
theorem Bg {b:Bs} (pas:Int) (hb:IsB b) (f g:Nat→Option Nat):bg f g (rK b pas)=rK b pas:=by
 unfold rK qp qo
 rcases uo b pas hb with ⟨s,d,h,h2⟩ | ⟨n,hh,i,l,h,h2⟩<;>rw [h]
 ·rfl
 ·exact h2 f g
theorem Nm {b:Bs} (pas:Int) (hb:IsB b) (f g:Nat→Option Nat):(kF b pas).ren f g=kF b pas:=by
 cases h:iB b pas
 ·rw [Hd hb h];simp only [TV.ren,ar,cT,Ha,OpS.cells,bg,Bf pas hb,Tok.ren]
 ·rw [Hc hb h]
  have:=Bg pas hb f g
  unfold rK at this
  simp only [TV.ren,ar,cT,OpS.cells,bg,this,Tok.ren]
def jg (b:Bs):Bool:=match iz b with
 | .inr _=>true
 | .inl _=>false
def lH (b:Bs):UpS:=match iz b with
 | .inr u=>u
 | .inl _=>od
def rL (b:Bs):Int:=match iz b with
 | .inr _=>0
 | .inl p=>p.1
def nx (b:Bs):Bs:=match iz b with
 | .inr _=> []
 | .inl p=>p.2
def P5 (b:Bs):Bs:=(lH b).w
def P6 (b:Bs):Int:=(lH b).o
def P7 (b:Bs):Bs:=(lH b).x
def P8 (b:Bs):Int:=(lH b).h
def P9 (b:Bs):Int:=(lH b).m
def Qa (b:Bs):Bool:=(lH b).hm
def Qb (b:Bs):Bs:=(lH b).n
theorem Qc {b:Bs} (h:jg b=true):ns b= .tup [.agg (lH b).cells,cT 0 0 []]:=by
 unfold ns Be lH
 unfold jg at h
 cases e:iz b with
 | inl x=>rw [e] at h;cases h
 | inr p=>rfl
theorem Qd {b:Bs} (h:jg b=false):ns b= .tup [.agg od.cells,cT 3 (rL b) (nx b)]:=by
 unfold ns Be rL nx
 unfold jg at h
 cases e:iz b with
 | inl x=>rfl
 | inr p=>rw [e] at h;cases h
theorem Kd {b:Bs} (hb:IsB b) (f g:Nat→Option Nat):bg f g (nx b)=nx b:=by
 unfold nx
 cases e:iz b with
 | inl x=>exact G4 hb e f g
 | inr p=>rfl
theorem Nn {b:Bs} (hb:IsB b) (f g:Nat→Option Nat):ar f g (lH b).cells=(lH b).cells:=by
 unfold lH
 cases e:iz b with
 | inl x=>rfl
 | inr p=>
  have:=G3 hb e f g
  simp only [UpS.tv,TV.ren] at this
  injection this
def vR (b:Bs):Int:=eJ (b[0]?.getD [])
def vS (b:Bs):Int:=eJ (b[1]?.getD [])
def vT (b:Bs):Bs:=b.drop 2
theorem Qe (b:Bs):vG b=bif ia b then .tup [cT (vR b) (vS b) (vT b), .val (.bool true)] else .tup [cT 0 0 [], .val (.bool false)]:=rfl
theorem No {b:Bs} (hb:IsB b) (f g:Nat→Option Nat):(vG b).ren f g=vG b:=by
 have:=(hb.drop 2).ren f g
 unfold vG
 cases ia b
 ·rfl
 ·simp only [cond_true,TV.ren,ar,this,Tok.ren]
structure MsgS where
 k:Int
 op:OpS
 u:UpS
 c:Int
 s:Int
 d:Bs
def MsgS.cells (m:MsgS):List TV:=(.val (.int .i64 m.k))::(m.op.cells++(m.u.cells++ [.val (.int .i64 m.c), .val (.int .i64 m.s), .vec 1 m.d .none]))
def m0:MsgS:=⟨0,Ha,od,0,0, []⟩
def eY (b:Bs) (pas:Int):(Int × Int × Bs) ⊕ MsgS:=
 bif eR b then
  (if b.length<19 then .inl (1,2, []) else if ¬tz b=b.length then .inl (1,2,oh b) else
  if dQ b=1 then (bif iB (b.drop 19) pas then .inr {m0 with k:=dQ b,op:=qp (b.drop 19) pas} else .inl (2,up (b.drop 19) pas,oE (b.drop 19) pas))
  else if dQ b=2 then (bif jg (b.drop 19) then .inr {m0 with k:=dQ b,u:=lH (b.drop 19)} else .inl (3,rL (b.drop 19),nx (b.drop 19)))
  else if dQ b=3 then (bif ia (b.drop 19) then .inr {m0 with k:=dQ b,c:=vR (b.drop 19),s:=vS (b.drop 19),d:=vT (b.drop 19)} else .inl (1,2,oh b))
  else .inr {m0 with k:=dQ b})
 else .inl (1,pf b,nw b)
def He (p:(Int × Int × Bs) ⊕ MsgS):TV:=match p with
 | .inl (c,s,d)=> .tup [.agg m0.cells,cT c s d]
 | .inr m=> .tup [.agg m.cells,cT 0 0 []]
def tA (b:Bs) (pas:Int):TV:=He (eY b pas)
def Qf (m:MsgS):Prop:=∀f g,ar f g m.cells=m.cells
theorem la (f g:Nat→Option Nat) (l m:List TV):ar f g (l++m)=ar f g l++ar f g m:=by simp only [fA,List.map_append]
theorem sO {m:MsgS} (h1:∀f g,ar f g m.op.cells=m.op.cells) (h2:∀f g,ar f g m.u.cells=m.u.cells) (h3:∀f g,bg f g m.d=m.d):Qf m:=fun f g=>by
 simp only [MsgS.cells,ar,la,h1,h2,TV.ren,h3,Tok.ren]
theorem Qg {b:Bs} {pas:Int} (hb:IsB b) {m:MsgS} (h:eY b pas= .inr m):Qf m:=by
  have hd:=hb.drop 19
  unfold eY at h
  cases h1:eR b<;>rw [h1] at h<;>simp only [cond_true,cond_false] at h
  · cases h
  split at h
  · cases h
  split at h
  · cases h
  split at h
  · cases h2:iB (b.drop 19) pas<;>rw [h2] at h<;>simp only [cond_true,cond_false] at h
    · cases h
    · injection h with h;subst h
      refine sO (fun f g=> ?_) (fun _ _=>rfl) (fun _ _=>rfl)
      have:=Bg pas hd f g
      unfold rK at this
      simp only [OpS.cells,ar,TV.ren,this,Tok.ren]
  split at h
  · cases h2:jg (b.drop 19)<;>rw [h2] at h<;>simp only [cond_true,cond_false] at h
    · cases h
    · injection h with h;subst h
      exact sO (fun _ _=>rfl) (fun f g=>Nn hd f g) (fun _ _=>rfl)
  split at h
  · cases h2:ia (b.drop 19)<;>rw [h2] at h<;>simp only [cond_true,cond_false] at h
    · cases h
    · injection h with h;subst h
      exact sO (fun _ _=>rfl) (fun _ _=>rfl) (fun f g=>(hd.drop 2).ren f g)
  · injection h with h;subst h
    exact sO (fun _ _=>rfl) (fun _ _=>rfl) (fun _ _=>rfl)
theorem Qh {b:Bs} {pas:Int} (hb:IsB b) {c s:Int} {d:Bs} (h:eY b pas= .inl (c,s,d)) (f g:Nat→Option Nat):bg f g d=d:=by
 have hd:=hb.drop 19
 have hz:IsB (oh b):=(hb.drop 16).take 2
 unfold eY at h
 cases h1:eR b<;>rw [h1] at h<;>simp only [cond_true,cond_false] at h
 ·injection h with h;injection h with _ h;injection h with _ h;rw [←h];exact (G7 hb).ren f g
 split at h
 ·injection h with h;injection h with _ h;injection h with _ h;rw [←h];rfl
 split at h
 ·injection h with h;injection h with _ h;injection h with _ h;rw [←h];exact hz.ren f g
 split at h
 ·cases h2:iB (b.drop 19) pas<;>rw [h2] at h<;>simp only [cond_true,cond_false] at h
  ·injection h with h;injection h with _ h;injection h with _ h;rw [←h];exact Bf pas hd f g
  ·cases h
 split at h
 ·cases h2:jg (b.drop 19)<;>rw [h2] at h<;>simp only [cond_true,cond_false] at h
  ·injection h with h;injection h with _ h;injection h with _ h;rw [←h];exact Kd hd f g
  ·cases h
 split at h
 ·cases h2:ia (b.drop 19)<;>rw [h2] at h<;>simp only [cond_true,cond_false] at h
  ·injection h with h;injection h with _ h;injection h with _ h;rw [←h];exact hz.ren f g
  ·cases h
 ·cases h
theorem Dc {b:Bs} (pas:Int) (hb:IsB b) (f g:Nat→Option Nat):(tA b pas).ren f g=tA b pas:=by
 unfold tA He
 split
 ·rename_i c s d h
  have:=Qh hb h f g
  have h0:ar f g m0.cells=m0.cells:=rfl
  simp only [TV.ren,ar,cT,this,h0,Tok.ren]
 ·rename_i m h
  have:=Qg hb h f g
  simp only [TV.ren,ar,cT,this,bg,Tok.ren]
end
section
open Go.RowKit

abbrev Bh:=26
abbrev Hf:=28
def Dd:aV:=fun _ ys T K=>match ys with
 | [.vec 1 b _]=>IsB b∧bif eR b then K (.tup [.val (.int .i64 (tz b)), .val (.int .i64 (dQ b)),cT 0 0 []]) T else K (.tup [.val (.int .i64 0), .val (.int .i64 0),cT 1 (pf b) (nw b)]) T
 | _=>aN 83 default ys
def EU:aV:=fun _ ys T K=>match ys with
 | [.vec 1 b _, .val (.int .i64 pas)]=>IsB b∧bif iB b pas then K (.tup [.agg [.val (.int .i64 (Ka b pas)), .val (.int .i64 (Kb b pas)), .val (.int .u32 (Kc b pas)), .vec 2 (rK b pas) .none],cT 0 0 []]) T else K (.tup [.agg [.val (.int .i64 0), .val (.int .i64 0), .val (.int .u32 0), .vec 2 [] .none],cT 2 (up b pas) (oE b pas)]) T
 | _=>aN 83 default ys
def EV:aV:=fun _ ys T K=>match ys with
 | [.vec 1 b _]=>IsB b∧bif jg b then K (.tup [.agg [.vec 2 (P5 b) .none, .val (.int .i64 (P6 b)), .vec 1 (P7 b) .none, .val (.int .u32 (P8 b)), .val (.int .i64 (P9 b)), .val (.bool (Qa b)), .vec 2 (Qb b) .none],cT 0 0 []]) T
  else K (.tup [.agg [.vec 2 [] .none, .val (.int .i64 0), .vec 1 [] .none, .val (.int .u32 0), .val (.int .i64 0), .val (.bool false), .vec 2 [] .none],cT 3 (rL b) (nx b)]) T
 | _=>aN 83 default ys
def EW:aV:=fun _ ys T K=>match ys with
 | [.vec 1 b _]=>IsB b∧bif ia b then K (.tup [cT (vR b) (vS b) (vT b), .val (.bool true)]) T else K (.tup [cT 0 0 [], .val (.bool false)]) T
 | _=>aN 83 default ys
def Bi (r0 r1 r2 r3 r4 r5 r6 r7 r8 r9 r10 r11 r12 r13 r14 r15 r16 r17 r18:List TV) (w:Bs):Bs:=r0::r1::r2::r3::r4::r5::r6::r7::r8::r9::r10::r11::r12::r13::r14::r15::r16::r17::r18::w
def gG (z0 z1 z2 z3 z4 z5 z6 z7 z8 z9 z10 z11 z12 z13 z14 z15 z16 z17 z18:Int) (w:Bs):Bs:=bT z0::bT z1::bT z2::bT z3::bT z4::bT z5::bT z6::bT z7::bT z8::bT z9::bT z10::bT z11::bT z12::bT z13::bT z14::bT z15::bT z16::bT z17::bT z18::w
theorem S2 (z0 z1 z2 z3 z4 z5 z6 z7 z8 z9 z10 z11 z12 z13 z14 z15 z16 z17 z18 x:Int) (r:List TV) (w:Bs) (Q:TV→VT→Prop):au Tryz.prog cL (aC [(jB,tY)]) (bc [(999998, .dead,none),(71, .elt (.val (.int .i64 x)::r),none)]) 300 aK 0 Bh [.vec 1 (gG z0 z1 z2 z3 z4 z5 z6 z7 z8 z9 z10 z11 z12 z13 z14 z15 z16 z17 z18 w) .none] aG Q=
 (bif !decide ((16:Int)≤IntKind.wrap IntKind.i64 ((↑(List.length (gG z0 z1 z2 z3 z4 z5 z6 z7 z8 z9 z10 z11 z12 z13 z14 z15 z16 z17 z18 w)):Int)-(2:Int)))
 then (((@Eq (Option TV) (.some (Ew z0 z1 z2 z3 z4 z5 z6 z7 z8 z9 z10 z11 z12 z13 z14 z15)) (.some (Ew z0 z1 z2 z3 z4 z5 z6 z7 z8 z9 z10 z11 z12 z13 z14 z15)))∧
 True)∧
 (bif av BinOp.neq
  (aP
    ((fun vs=>Value.agg (List.toArray vs))
      ((fun x=>Value.int IntKind.u8 z0::x)
        ((fun x=>Value.int IntKind.u8 z1::x)
          ((fun x=>Value.int IntKind.u8 z2::x)
            ((fun x=>Value.int IntKind.u8 z3::x)
              ((fun x=>Value.int IntKind.u8 z4::x)
                ((fun x=>Value.int IntKind.u8 z5::x)
                  ((fun x=>Value.int IntKind.u8 z6::x)
                    ((fun x=>Value.int IntKind.u8 z7::x)
                      ((fun x=>Value.int IntKind.u8 z8::x) ((fun x=>Value.int IntKind.u8 z9::x) ((fun x=>Value.int IntKind.u8 z10::x) ((fun x=>Value.int IntKind.u8 z11::x) ((fun x=>Value.int IntKind.u8 z12::x) ((fun x=>Value.int IntKind.u8 z13::x) ((fun x=>Value.int IntKind.u8 z14::x) ((fun x=>Value.int IntKind.u8 z15::x) [])))))))))))))))))
    ((fun vs=>Value.agg (List.toArray vs))
      ((fun x=>Value.int IntKind.u8 (255:Int)::x)
        ((fun x=>Value.int IntKind.u8 (255:Int)::x)
          ((fun x=>Value.int IntKind.u8 (255:Int)::x)
            ((fun x=>Value.int IntKind.u8 (255:Int)::x)
              ((fun x=>Value.int IntKind.u8 (255:Int)::x)
                ((fun x=>Value.int IntKind.u8 (255:Int)::x)
                  ((fun x=>Value.int IntKind.u8 (255:Int)::x)
                    ((fun x=>Value.int IntKind.u8 (255:Int)::x)
                      ((fun x=>Value.int IntKind.u8 (255:Int)::x)
                        ((fun x=>Value.int IntKind.u8 (255:Int)::x) ((fun x=>Value.int IntKind.u8 (255:Int)::x) ((fun x=>Value.int IntKind.u8 (255:Int)::x) ((fun x=>Value.int IntKind.u8 (255:Int)::x) ((fun x=>Value.int IntKind.u8 (255:Int)::x) ((fun x=>Value.int IntKind.u8 (255:Int)::x) ((fun x=>Value.int IntKind.u8 (255:Int)::x) []))))))))))))))))))
 then Q OT (OS z16 z17)
 else Q Az (Ay z16 z17)))
 else ((IsB ([(dK z16),(dK z17),(dK z18)]++w)∧
 (qZ 2∧
 q8 2 ([(dK z16),(dK z17),(dK z18)]++w)))∧
 (((@Eq (Option TV) (.some (Ew z0 z1 z2 z3 z4 z5 z6 z7 z8 z9 z10 z11 z12 z13 z14 z15)) (.some (Ew z0 z1 z2 z3 z4 z5 z6 z7 z8 z9 z10 z11 z12 z13 z14 z15)))∧
 True)∧
 (bif av BinOp.neq
  (aP
    ((fun vs=>Value.agg (List.toArray vs))
      ((fun x=>Value.int IntKind.u8 z0::x)
        ((fun x=>Value.int IntKind.u8 z1::x)
          ((fun x=>Value.int IntKind.u8 z2::x)
            ((fun x=>Value.int IntKind.u8 z3::x)
              ((fun x=>Value.int IntKind.u8 z4::x)
                ((fun x=>Value.int IntKind.u8 z5::x)
                  ((fun x=>Value.int IntKind.u8 z6::x)
                    ((fun x=>Value.int IntKind.u8 z7::x)
                      ((fun x=>Value.int IntKind.u8 z8::x) ((fun x=>Value.int IntKind.u8 z9::x) ((fun x=>Value.int IntKind.u8 z10::x) ((fun x=>Value.int IntKind.u8 z11::x) ((fun x=>Value.int IntKind.u8 z12::x) ((fun x=>Value.int IntKind.u8 z13::x) ((fun x=>Value.int IntKind.u8 z14::x) ((fun x=>Value.int IntKind.u8 z15::x) [])))))))))))))))))
    ((fun vs=>Value.agg (List.toArray vs))
      ((fun x=>Value.int IntKind.u8 (255:Int)::x)
        ((fun x=>Value.int IntKind.u8 (255:Int)::x)
          ((fun x=>Value.int IntKind.u8 (255:Int)::x)
            ((fun x=>Value.int IntKind.u8 (255:Int)::x)
              ((fun x=>Value.int IntKind.u8 (255:Int)::x)
                ((fun x=>Value.int IntKind.u8 (255:Int)::x)
                  ((fun x=>Value.int IntKind.u8 (255:Int)::x)
                    ((fun x=>Value.int IntKind.u8 (255:Int)::x)
                      ((fun x=>Value.int IntKind.u8 (255:Int)::x)
                        ((fun x=>Value.int IntKind.u8 (255:Int)::x) ((fun x=>Value.int IntKind.u8 (255:Int)::x) ((fun x=>Value.int IntKind.u8 (255:Int)::x) ((fun x=>Value.int IntKind.u8 (255:Int)::x) ((fun x=>Value.int IntKind.u8 (255:Int)::x) ((fun x=>Value.int IntKind.u8 (255:Int)::x) ((fun x=>Value.int IntKind.u8 (255:Int)::x) []))))))))))))))))))
 then Q OT (OS z16 z17)
 else (bif decide (IntKind.wrap IntKind.i64 (cj (2:Int) (List.drop (Int.toNat (16:Int)) (gG z0 z1 z2 z3 z4 z5 z6 z7 z8 z9 z10 z11 z12 z13 z14 z15 z16 z17 z18 w)))<(19:Int))
 then Q Az (Ay z16 z17)
 else (bif decide (IntKind.wrap IntKind.i64 (cj (2:Int) (List.drop (Int.toNat (16:Int)) (gG z0 z1 z2 z3 z4 z5 z6 z7 z8 z9 z10 z11 z12 z13 z14 z15 z16 z17 z18 w)))>(4096:Int))
 then Q Az (Ay z16 z17)
 else (bif decide (IntKind.wrap IntKind.i64 z18<(1:Int))
 then Q (OP [[(.val (.int .u8 (z18)))]]) (OO [[(.val (.int .u8 (z18)))]] z16 z17 [[(.val (.int .u8 (z18)))]])
 else (bif decide (IntKind.wrap IntKind.i64 z18>(4:Int))
 then Q (OP [[(.val (.int .u8 (z18)))]]) (OO [[(.val (.int .u8 (z18)))]] z16 z17 [[(.val (.int .u8 (z18)))]])
 else (bo Tryz.prog (fun kk=>(bif Nat.beq kk (0:Nat) then (.some I5) else .none)) (.indexAddr 112 (.global 0) (.tmp 70)) [(70,(ak (IntKind.wrap IntKind.i64 z18)))] (.elt ([(.val (.int .i64 (x)))]++r))∧
 (bif decide (IntKind.wrap IntKind.i64 (cj (2:Int) (List.drop (Int.toNat (16:Int)) (gG z0 z1 z2 z3 z4 z5 z6 z7 z8 z9 z10 z11 z12 z13 z14 z15 z16 z17 z18 w)))<x)
 then Q Az (Ay z16 z17)
 else (bif av BinOp.eql (k6 (IntKind.wrap IntKind.i64 z18) (4:Int))
 then (bif decide (IntKind.wrap IntKind.i64 (cj (2:Int) (List.drop (Int.toNat (16:Int)) (gG z0 z1 z2 z3 z4 z5 z6 z7 z8 z9 z10 z11 z12 z13 z14 z15 z16 z17 z18 w)))>(19:Int))
 then Q Az (Ay z16 z17)
 else Q (ON (IntKind.wrap IntKind.i64 (cj (2:Int) (List.drop (Int.toNat (16:Int)) (gG z0 z1 z2 z3 z4 z5 z6 z7 z8 z9 z10 z11 z12 z13 z14 z15 z16 z17 z18 w)))) (IntKind.wrap IntKind.i64 z18)) (OM z16 z17))
 else Q (ON (IntKind.wrap IntKind.i64 (cj (2:Int) (List.drop (Int.toNat (16:Int)) (gG z0 z1 z2 z3 z4 z5 z6 z7 z8 z9 z10 z11 z12 z13 z14 z15 z16 z17 z18 w)))) (IntKind.wrap IntKind.i64 z18)) (OM z16 z17)))))))))))):=by kernel_rfl
theorem Qi (b:Bs) (Q:TV→VT→Prop):au Tryz.prog cL (aC [(jB,tY)]) (bc [(999998, .dead,none),(16, .dead,none)]) 300 aK 0 Bh [.vec 1 b .none] aG Q=
 (bif decide ((↑(List.length b):Int)<(19:Int))
 then Q (.tup [aD,aD,kj]) KM
 else (bo Tryz.prog (fun kk=>(bif Nat.beq kk (0:Nat) then (.some I5) else .none)) (.slice 22 (.tmp 15) (.some (.const (.int .i64 16))) (.some (.const (.int .i64 18))) .none) [(15,(aI b))] .dead∧
 False)):=by kernel_rfl
abbrev K9 (BB:Bs) (pas:Int):VO:=(Uv (dQ BB) (Ka (List.drop (Int.toNat (19:Int)) BB) pas) (Kb (List.drop (Int.toNat (19:Int)) BB) pas) (Kc (List.drop (Int.toNat (19:Int)) BB) pas) (rK (List.drop (Int.toNat (19:Int)) BB) pas))
abbrev La (BB:Bs):VO:=(Uu (dQ BB) (vR (List.drop (Int.toNat (19:Int)) BB)) (vS (List.drop (Int.toNat (19:Int)) BB)) (vT (List.drop (Int.toNat (19:Int)) BB)))
abbrev Lb (BB:Bs):VO:=(I7 (rL (List.drop (Int.toNat (19:Int)) BB)) (nx (List.drop (Int.toNat (19:Int)) BB)))
abbrev EX (BB:Bs):TV:=(eX (P5 (List.drop (Int.toNat (19:Int)) BB)))
abbrev EY (BB:Bs):TV:=(ak (P6 (List.drop (Int.toNat (19:Int)) BB)))
abbrev EZ (BB:Bs):TV:=(aI (P7 (List.drop (Int.toNat (19:Int)) BB)))
abbrev E0 (BB:Bs):TV:=(ir (P8 (List.drop (Int.toNat (19:Int)) BB)))
abbrev E1 (BB:Bs):TV:=(ak (P9 (List.drop (Int.toNat (19:Int)) BB)))
abbrev E2 (BB:Bs):TV:=(nY (Qa (List.drop (Int.toNat (19:Int)) BB)))
abbrev E3 (BB:Bs):TV:=(eX (Qb (List.drop (Int.toNat (19:Int)) BB)))
abbrev E4 (BB:Bs) (pas:Int):TV:=(ak (up (List.drop (Int.toNat (19:Int)) BB) pas))
abbrev E5 (BB:Bs) (pas:Int):TV:=(aI (oE (List.drop (Int.toNat (19:Int)) BB) pas))
theorem S3 (r0 r1 r2 r3 r4 r5 r6 r7 r8 r9 r10 r11 r12 r13 r14 r15 r16 r17 r18:List TV) (w:Bs) (pas:Int) (Q:TV→VT→Prop):au Tryz.prog cL (aC [(Bh,Dd),(KR,EU),(K5,EV),(KQ,EW)]) (bc [(999999, .dead,none)]) 300 aK 0 Hf [.vec 1 (Bi r0 r1 r2 r3 r4 r5 r6 r7 r8 r9 r10 r11 r12 r13 r14 r15 r16 r17 r18 w) .none, .val (.int .i64 pas)] aG Q=
 (fun BB:Bs=>(IsB ([(r0),(r1),(r2),(r3),(r4),(r5),(r6),(r7),(r8),(r9),(r10),(r11),(r12),(r13),(r14),(r15),(r16),(r17),(r18)]++w)∧
 (bif eR BB
 then (bif av BinOp.neq (k6 (tz BB) (↑(List.length BB):Int))
 then Q OL ⟨[wM,mZ,dM,mZ,(.row (List.flatten (List.drop (Int.toNat (16:Int)) (List.take (Int.toNat (18:Int)) BB))))], []⟩
 else (bif av BinOp.eql (k6 (dQ BB) (1:Int))
 then (IsB (w)∧
 (bif iB (List.drop (Int.toNat (19:Int)) BB) pas
 then Q (.tup [(.agg [(ak (dQ BB)),(ak (Ka (List.drop (Int.toNat (19:Int)) BB) pas)),(ak (Kb (List.drop (Int.toNat (19:Int)) BB) pas)),(ir (Kc (List.drop (Int.toNat (19:Int)) BB) pas)),(eX (rK (List.drop (Int.toNat (19:Int)) BB) pas)),aO,aD,aO,cl,aD,aj,aO,aD,aD,aO]),kj]) ⟨[(K9 BB pas),cg,dM,mZ,(.row (List.flatten (List.drop (Int.toNat (16:Int)) (List.take (Int.toNat (18:Int)) BB)))),(K9 BB pas)], []⟩
 else Q (.tup [Aw,(.agg [du,(E4 BB pas),(E5 BB pas)])]) ⟨[wM,(.cells [du,(E4 BB pas),(E5 BB pas)]),(.cells [du,(E4 BB pas),(E5 BB pas)]),mZ,(.row (List.flatten (List.drop (Int.toNat (16:Int)) (List.take (Int.toNat (18:Int)) BB)))),(.cells [(ak (dQ BB)),aD,aD,cl,(.vec 2 [] .none),aO,aD,aO,cl,aD,aj,aO,aD,aD,aO])], []⟩))
 else (bif av BinOp.eql (k6 (dQ BB) (2:Int))
 then (IsB (w)∧
 (bif jg (List.drop (Int.toNat (19:Int)) BB)
 then Q (.tup [(.agg [(ak (dQ BB)),aD,aD,cl,aO,(EX BB),(EY BB),(EZ BB),(E0 BB),(E1 BB),(E2 BB),(E3 BB),aD,aD,aO]),kj]) ⟨[(.cells [(ak (dQ BB)),aD,aD,cl,aO,(EX BB),(EY BB),(EZ BB),(E0 BB),(E1 BB),(E2 BB),(E3 BB),aD,aD,aO]),cg,dM,mZ,(.row (List.flatten (List.drop (Int.toNat (16:Int)) (List.take (Int.toNat (18:Int)) BB)))),(.cells [(ak (dQ BB)),aD,aD,cl,aO,(EX BB),(EY BB),(EZ BB),(E0 BB),(E1 BB),(E2 BB),(E3 BB),aD,aD,aO])], []⟩
 else Q (.tup [Aw,(.agg [eL,(ak (rL (List.drop (Int.toNat (19:Int)) BB))),(aI (nx (List.drop (Int.toNat (19:Int)) BB)))])]) ⟨[wM,(Lb BB),(Lb BB),mZ,(.row (List.flatten (List.drop (Int.toNat (16:Int)) (List.take (Int.toNat (18:Int)) BB)))),(.cells [(ak (dQ BB)),aD,aD,cl,aO,(.vec 2 [] .none),aD,pR,cl,aD,aj,(.vec 2 [] .none),aD,aD,aO])], []⟩))
 else (bif av BinOp.eql (k6 (dQ BB) (3:Int))
 then (IsB (w)∧
 (bif ia (List.drop (Int.toNat (19:Int)) BB)
 then Q (.tup [(.agg [(ak (dQ BB)),aD,aD,cl,aO,aO,aD,aO,cl,aD,aj,aO,(ak (vR (List.drop (Int.toNat (19:Int)) BB))),(ak (vS (List.drop (Int.toNat (19:Int)) BB))),(aI (vT (List.drop (Int.toNat (19:Int)) BB)))]),kj]) ⟨[(La BB),cg,dM,mZ,(.row (List.flatten (List.drop (Int.toNat (16:Int)) (List.take (Int.toNat (18:Int)) BB)))),(La BB),(ep (vR (List.drop (Int.toNat (19:Int)) BB)) (vS (List.drop (Int.toNat (19:Int)) BB)) (vT (List.drop (Int.toNat (19:Int)) BB)))], []⟩
 else Q OL ⟨[wM,mZ,mZ,mZ,(.row (List.flatten (List.drop (Int.toNat (16:Int)) (List.take (Int.toNat (18:Int)) BB)))),(.cells [(ak (dQ BB)),aD,aD,cl,aO,aO,aD,aO,cl,aD,aj,aO,aD,aD,pR]),dM], []⟩))
 else Q (.tup [(.agg [(ak (dQ BB)),aD,aD,cl,aO,aO,aD,aO,cl,aD,aj,aO,aD,aD,aO]),kj]) ⟨[(OK (dQ BB)),cg,dM,mZ,(.row (List.flatten (List.drop (Int.toNat (16:Int)) (List.take (Int.toNat (18:Int)) BB)))),(OK (dQ BB))], []⟩))))
 else Q (OJ (pf BB) (nw BB)) (OI (pf BB) (nw BB) (pf BB) (nw BB))))) (Bi r0 r1 r2 r3 r4 r5 r6 r7 r8 r9 r10 r11 r12 r13 r14 r15 r16 r17 r18 w):=by kernel_rfl
theorem Qj (b:Bs) (pas:Int) (Q:TV→VT→Prop):au Tryz.prog cL (aC [(Bh,Dd)]) (bc [(999999, .dead,none),(36, .dead,none)]) 300 aK 0 Hf [.vec 1 b .none, .val (.int .i64 pas)] aG Q=
 (IsB (b)∧
 (bif eR b
 then (bif decide ((↑(List.length b):Int)<(19:Int))
 then Q (.tup [Aw,(.agg [dX,du,aO])]) ⟨[wM,I4,dM,I4], []⟩
 else (bo Tryz.prog (fun kk=>(bif Nat.beq kk (0:Nat) then (.some I5) else .none)) (.slice 22 (.tmp 35) (.some (.const (.int .i64 16))) (.some (.const (.int .i64 18))) .none) [(35,(aI b))] .dead∧
 False))
 else Q (OJ (pf b) (nw b)) (OI (pf b) (nw b) (pf b) (nw b)))):=by kernel_rfl
end
section
open Go.RowKit

theorem VCx.fz0 {P:Program} {G:aU} {f:FuncId} {xs:List TV} {y:TV} (hy:∀f g,y.ren f g=y) (h:VCx P G 0 f xs ⟨[], []⟩ fun x T' =>∃T2,FzLe T' x y T2∧T'.objs.length≤T2.objs.length):VCx P G 0 f xs ⟨[], []⟩ fun x T' =>x=y∧T' =⟨[], []⟩:=by
 refine VCx.keepQ 0 0 (Nat.le_refl _) (Nat.le_refl _) ((VCx.toFz (y:=y) (Q:=fun _=>True) (h.mono fun x T' ⟨T2,h1,h2⟩=>⟨T2,h1,h2,trivial⟩)).mono ?_)
 rintro x T' ⟨rfl,_⟩
 exact ⟨hy _ _,rfl⟩
def FzX (T:VT) (x y:TV):Prop:=∃T2,FzLe T x y T2∧T.objs.length≤T2.objs.length
theorem FzX.le {T:VT} {x y:TV} (h:TVle x y):FzX T x y:=⟨T, .le h,Nat.le_refl _⟩
theorem FzX.row {T:VT} {size id n:Nat} {es:Bs} (h:bQ T size (.row size id 0 n)=some es):FzX T (.row size id 0 n) (.vec size es .none):=⟨_, .row h,by simp [VT.kill]⟩
theorem ky {n:Nat} {l:List Int} (h:n+1≤l.length):∃z l',l=z::l' ∧n≤l'.length:=by
 cases l with
 | nil=>simp at h
 | cons z l=>exact ⟨z,l,rfl,by simpa using h⟩
def inZ (z:Int):Prop:=0≤z∧z<256
theorem inZ.wrap {z:Int} (h:inZ z):IntKind.wrap IntKind.i64 z=z:=bP (by have:=h.1;omega) (by have:=h.2;omega)
theorem Hg {b:Bs} (hb:IsB b) (h:19≤b.length):∃(z0 z1 z2 z3 z4 z5 z6 z7 z8 z9 z10 z11 z12 z13 z14 z15 z16 z17 z18:Int) (w:Bs),b=gG z0 z1 z2 z3 z4 z5 z6 z7 z8 z9 z10 z11 z12 z13 z14 z15 z16 z17 z18 w∧inZ z0∧inZ z1∧inZ z2∧inZ z3∧inZ z4∧inZ z5∧inZ z6∧inZ z7∧inZ z8∧inZ z9∧inZ z10∧inZ z11∧inZ z12∧inZ z13∧inZ z14∧inZ z15∧inZ z16∧inZ z17∧inZ z18:=by
 obtain ⟨⟨l,rfl,hl⟩,_⟩:=hb
 have h:19≤l.length:=by simpa [bV] using h
 obtain ⟨z0,l0,e0,h0⟩:=ky h
 subst e0
 obtain ⟨z1,l1,e1,h1⟩:=ky h0
 subst e1
 obtain ⟨z2,l2,e2,h2⟩:=ky h1
 subst e2
 obtain ⟨z3,l3,e3,h3⟩:=ky h2
 subst e3
 obtain ⟨z4,l4,e4,h4⟩:=ky h3
 subst e4
 obtain ⟨z5,l5,e5,h5⟩:=ky h4
 subst e5
 obtain ⟨z6,l6,e6,h6⟩:=ky h5
 subst e6
 obtain ⟨z7,l7,e7,h7⟩:=ky h6
 subst e7
 obtain ⟨z8,l8,e8,h8⟩:=ky h7
 subst e8
 obtain ⟨z9,l9,e9,h9⟩:=ky h8
 subst e9
 obtain ⟨z10,l10,e10,h10⟩:=ky h9
 subst e10
 obtain ⟨z11,l11,e11,h11⟩:=ky h10
 subst e11
 obtain ⟨z12,l12,e12,h12⟩:=ky h11
 subst e12
 obtain ⟨z13,l13,e13,h13⟩:=ky h12
 subst e13
 obtain ⟨z14,l14,e14,h14⟩:=ky h13
 subst e14
 obtain ⟨z15,l15,e15,h15⟩:=ky h14
 subst e15
 obtain ⟨z16,l16,e16,h16⟩:=ky h15
 subst e16
 obtain ⟨z17,l17,e17,h17⟩:=ky h16
 subst e17
 obtain ⟨z18,l18,e18,h18⟩:=ky h17
 subst e18
 refine ⟨z0,z1,z2,z3,z4,z5,z6,z7,z8,z9,z10,z11,z12,z13,z14,z15,z16,z17,z18,bV l18,rfl,hl z0 (by simp),hl z1 (by simp),hl z2 (by simp),hl z3 (by simp),hl z4 (by simp),hl z5 (by simp),hl z6 (by simp),hl z7 (by simp),hl z8 (by simp),hl z9 (by simp),hl z10 (by simp),hl z11 (by simp),hl z12 (by simp),hl z13 (by simp),hl z14 (by simp),hl z15 (by simp),hl z16 (by simp),hl z17 (by simp),hl z18 (by simp)⟩
theorem yu:∀l:List Int,ef (l.map (Value.int .u8)) (l.map fun _=>Value.int .u8 255)=(bV l).all fun r=>decide (eJ r=255)
 | []=>rfl
 | z::l=>by
  have h:=yu l
  have e:ci (Value.int .u8 z) (Value.int .u8 255)=decide (z=255):=by simp [ci,Bool.beq_eq_decide_eq]
  simp only [List.map_cons,ef,bV,List.all_cons,e] at h ⊢
  rw [show eJ (bT z)=z from rfl]
  rw [h]
  cases decide (z=255)<;>rfl
theorem Np {b:Bs} (hb:IsB b):0≤cj 2 b∧cj 2 b<65536:=by
 obtain ⟨⟨l,hl,hz⟩,_⟩:=hb.take 2
 have hlen:l.length≤2:=by
  have:=congrArg List.length hl
  simp only [bV,List.length_map,List.length_take] at this
  omega
 have h:=qY hz
 unfold cj
 rw [show (2:Int).toNat=2 from rfl,hl]
 refine ⟨h.1,Int.lt_of_lt_of_le h.2 ?_⟩
 have:l.length=0∨l.length=1∨l.length=2:=by omega
 rcases this with h | h | h<;>rw [h]<;>decide
def Hh (k:Int):List TV:=([.val (.int .i64 0), .val (.int .i64 29), .val (.int .i64 23), .val (.int .i64 21), .val (.int .i64 19)]:List TV).drop (k.toNat+1)
theorem E6 {k:Int} (h1:1≤k) (h4:k≤4):bo Tryz.prog cL (.indexAddr 112 (.global 0) (.tmp 70)) [(70,(.val (.int .i64 k)))] (.elt ([.val (.int .i64 (uj k))]++Hh k)):=by
 have h:k=1∨k=2∨k=3∨k=4:=by omega
 rcases h with rfl | rfl | rfl | rfl<;>exact ⟨by kernel_rfl⟩
section
variable {b:Bs}
theorem ny {s:Int} {d:Bs} {dz:TV} {T' :VT} (h:jq b= .inl (s,d)) (hd:FzX T' dz (.vec 1 d .none)):FzX T' (.tup [.val (.int .i64 0), .val (.int .i64 0), .agg [.val (.int .i64 1), .val (.int .i64 s),dz]]) (qn b):=by
 obtain ⟨T2,h1,h2⟩:=hd
 unfold qn G6
 rw [h]
 exact ⟨T2, .tup (.le (.le (.cons (.agg (.le (.le (.cons h1 .nil)))) .nil))),h2⟩
theorem xf {n k:Int} {T' :VT} (h:jq b= .inr (n,k)):FzX T' (.tup [.val (.int .i64 n), .val (.int .i64 k), .agg [.val (.int .i64 0), .val (.int .i64 0), .val (.slice none 0 0)]]) (qn b):=by
 unfold qn G6
 rw [h]
 exact .le (.tup ⟨.refl _, .refl _, .agg ⟨.refl _, .refl _, .nil 1,trivial⟩,trivial⟩)
theorem Ke (h:¬b.length<19):jq b=bif iA b then
  (if lG b<19∨lG b>4096 then .inl (2,oh b) else if pd b<1∨pd b>4 then .inl (3,K8 b)
  else if lG b<uj (pd b)∨(pd b=4∧¬lG b=19) then .inl (2,oh b) else .inr (lG b,pd b))
 else .inl (1, []):=by unfold jq;rw [if_neg h]
end
theorem xg {z16 z17:Int} {T' :VT} {id:Nat} (h:T'.objs[id]?=some (.row [.val (.int .u8 z16), .val (.int .u8 z17)])):FzX T' (.row 1 id 0 2) (.vec 1 [bT z16,bT z17] .none):=
 .row (kg (es:= [bT z16,bT z17]) h (by intro e he;simp only [List.mem_cons,List.not_mem_nil,or_false] at he;rcases he with rfl | rfl<;>rfl))
theorem Lc:aZ Tryz.prog cL (aC [(jB,tY)]):=aJ fun p hp=>by
 obtain rfl:=List.mem_singleton.1 hp;exact fun ro ys T K h=>VCx.anyG (wW ro ys T K h)
set_option maxHeartbeats 1000000 in
theorem Hi {b:Bs} (hb:IsB b):VCx Tryz.prog cL 0 Bh [.vec 1 b .none] ⟨[], []⟩ fun x T' =>x=qn b∧T' =⟨[], []⟩:=by
 refine VCx.fz0 (Db hb) ?_
 by_cases hlen:b.length<19
 ·refine ai ac aa Lc ah (Qi b _) ?_
  exact aQ (decide_eq_true (show ((b.length:Nat):Int)<19 by omega)) (xf (by unfold jq;rw [if_pos hlen]))
 obtain ⟨z0,z1,z2,z3,z4,z5,z6,z7,z8,z9,z10,z11,z12,z13,z14,z15,z16,z17,z18,w,rfl,i0,i1,i2,i3,i4,i5,i6,i7,i8,i9,i10,i11,i12,i13,i14,i15,i16,i17,i18⟩:=Hg hb (by omega)
 have hl:¬(gG z0 z1 z2 z3 z4 z5 z6 z7 z8 z9 z10 z11 z12 z13 z14 z15 z16 z17 z18 w).length<19:=by simp [gG]
 have hP:=Ke hl
 have hN:=Np (hb.drop 16)
 have hsz:oh (gG z0 z1 z2 z3 z4 z5 z6 z7 z8 z9 z10 z11 z12 z13 z14 z15 z16 z17 z18 w)= [bT z16,bT z17]:=rfl
 have hkd:K8 (gG z0 z1 z2 z3 z4 z5 z6 z7 z8 z9 z10 z11 z12 z13 z14 z15 z16 z17 z18 w)= [bT z18]:=rfl
 have hk:pd (gG z0 z1 z2 z3 z4 z5 z6 z7 z8 z9 z10 z11 z12 z13 z14 z15 z16 z17 z18 w)=z18:=rfl
 change 0≤lG (gG z0 z1 z2 z3 z4 z5 z6 z7 z8 z9 z10 z11 z12 z13 z14 z15 z16 z17 z18 w)∧lG (gG z0 z1 z2 z3 z4 z5 z6 z7 z8 z9 z10 z11 z12 z13 z14 z15 z16 z17 z18 w)<65536 at hN
 rw [hsz,hkd,hk] at hP
 have hwk:IntKind.wrap IntKind.i64 z18=z18:=i18.wrap
 have hwn:IntKind.wrap IntKind.i64 (cj (2:Int) (List.drop (Int.toNat (16:Int)) (gG z0 z1 z2 z3 z4 z5 z6 z7 z8 z9 z10 z11 z12 z13 z14 z15 z16 z17 z18 w)))=lG (gG z0 z1 z2 z3 z4 z5 z6 z7 z8 z9 z10 z11 z12 z13 z14 z15 z16 z17 z18 w):=bP (z:=lG (gG z0 z1 z2 z3 z4 z5 z6 z7 z8 z9 z10 z11 z12 z13 z14 z15 z16 z17 z18 w)) (by omega) (by omega)
 have hsm:=hb.small
 have hll:(gG z0 z1 z2 z3 z4 z5 z6 z7 z8 z9 z10 z11 z12 z13 z14 z15 z16 z17 z18 w).length=w.length+19:=rfl
 refine ai ac aa Lc ah (S2 z0 z1 z2 z3 z4 z5 z6 z7 z8 z9 z10 z11 z12 z13 z14 z15 z16 z17 z18 (uj z18) (Hh z18) w _) ?_
 rw [hwn,hwk]
 generalize lG (gG z0 z1 z2 z3 z4 z5 z6 z7 z8 z9 z10 z11 z12 z13 z14 z15 z16 z17 z18 w)=n at hP hN
 refine aM (by rw [bP (by omega) (by omega),decide_eq_true (by omega)];rfl) ⟨⟨hb.drop 16,⟨by decide,by decide⟩,by show (2:Int)≤_;simp only [List.length_append,List.length_cons,List.length_nil];omega⟩,⟨rfl,trivial⟩, ?_⟩
 have hall:=yu [z0,z1,z2,z3,z4,z5,z6,z7,z8,z9,z10,z11,z12,z13,z14,z15]
 refine am (fun c=> ?_) (fun c=> ?_)
 ·have c2:(!iA (gG z0 z1 z2 z3 z4 z5 z6 z7 z8 z9 z10 z11 z12 z13 z14 z15 z16 z17 z18 w))=true:=Eq.trans (congrArg Bool.not hall).symm c
  have c3:iA (gG z0 z1 z2 z3 z4 z5 z6 z7 z8 z9 z10 z11 z12 z13 z14 z15 z16 z17 z18 w)=false:=by simpa using c2
  exact ny (by rw [hP,c3];rfl) (.le (.nil 1))
 have c2:(!iA (gG z0 z1 z2 z3 z4 z5 z6 z7 z8 z9 z10 z11 z12 z13 z14 z15 z16 z17 z18 w))=false:=Eq.trans (congrArg Bool.not hall).symm c
 have c3:iA (gG z0 z1 z2 z3 z4 z5 z6 z7 z8 z9 z10 z11 z12 z13 z14 z15 z16 z17 z18 w)=true:=by simpa using c2
 rw [c3,cond_true] at hP
 refine am (fun d1=> ?_) (fun d1=> ?_)
 ·exact ny (by rw [hP,if_pos (.inl (of_decide_eq_true d1))]) (xg rfl)
 replace d1:=of_decide_eq_false d1
 refine am (fun d2=> ?_) (fun d2=> ?_)
 ·exact ny (by rw [hP,if_pos (.inr (of_decide_eq_true d2))]) (xg rfl)
 replace d2:=of_decide_eq_false d2
 rw [if_neg (show ¬(n<19∨n>4096) by omega)] at hP
 refine am (fun d3=> ?_) (fun d3=> ?_)
 ·exact ny (by rw [hP,if_pos (.inl (of_decide_eq_true d3))];rfl) (.le (.vec 1 _ _))
 replace d3:=of_decide_eq_false d3
 refine am (fun d4=> ?_) (fun d4=> ?_)
 ·exact ny (by rw [hP,if_pos (.inr (of_decide_eq_true d4))];rfl) (.le (.vec 1 _ _))
 replace d4:=of_decide_eq_false d4
 rw [if_neg (show ¬(z18<1∨z18>4) by omega)] at hP
 refine ⟨E6 (by omega) (by omega), ?_⟩
 refine am (fun d5=> ?_) (fun d5=> ?_)
 ·exact ny (by rw [hP,if_pos (.inl (of_decide_eq_true d5))]) (xg rfl)
 replace d5:=of_decide_eq_false d5
 refine am (fun d6=> ?_) (fun d6=> ?_)
 ·replace d6:=dP d6
  refine am (fun d7=> ?_) (fun d7=> ?_)
  ·replace d7:=of_decide_eq_true d7
   exact ny (by rw [hP,if_pos (.inr ⟨d6,by omega⟩)]) (xg rfl)
  ·replace d7:=of_decide_eq_false d7
   exact xf (by rw [hP,if_neg (by omega)])
 ·replace d6:=di d6
  exact xf (by rw [hP,if_neg (by omega)])
end
section
open Go.RowKit

theorem Hj {G:aU} (hG:dl G) {f:FuncId} (h:∀{b:Bs},IsB b→VCx Tryz.prog G 0 f [.vec 1 b .none] ⟨[], []⟩ fun x T' =>x=qn b∧T' =⟨[], []⟩):∀ro ys T K,Dd ro ys T K→VCx Tryz.prog G ro f ys T K:=by
 intro ro ys T K hw
 unfold Dd at hw
 split at hw
 ·rename_i b tok
  refine VCx.loosePure hG (h hw.1) (by simp [bG]) (by simp [ar,TV.ren,hw.1.ren,Tok.ren]) (fun f h=>Db hw.1 f h) ?_
  have h2:=hw.2
  cases hh:eR b<;>rw [hh] at h2
  ·rw [G9 hh];exact h2
  ·rw [G8 hh];exact h2
 ·exact hw.elim
theorem Nq {G:aU} (hG:dl G) {f:FuncId} (h:∀{b:Bs} (pas:Int),IsB b→VCx Tryz.prog G 0 f [.vec 1 b .none, .val (.int .i64 pas)] ⟨[], []⟩ fun x T' =>x=kF b pas∧T' =⟨[], []⟩):∀ro ys T K,EU ro ys T K→VCx Tryz.prog G ro f ys T K:=by
 intro ro ys T K hw
 unfold EU at hw
 split at hw
 ·rename_i b tok pas
  refine VCx.loosePure hG (h pas hw.1) (by simp [bG]) (by simp [ar,TV.ren,hw.1.ren,Tok.ren]) (fun f h=>Nm pas hw.1 f h) ?_
  have h2:=hw.2
  cases hh:iB b pas<;>rw [hh] at h2
  ·rw [Hd hw.1 hh];exact h2
  ·rw [Hc hw.1 hh];exact h2
 ·exact hw.elim
theorem Nr {G:aU} (hG:dl G) {f:FuncId} (h:∀{b:Bs},IsB b→VCx Tryz.prog G 0 f [.vec 1 b .none] ⟨[], []⟩ fun x T' =>x=ns b∧T' =⟨[], []⟩):∀ro ys T K,EV ro ys T K→VCx Tryz.prog G ro f ys T K:=by
 intro ro ys T K hw
 unfold EV at hw
 split at hw
 ·rename_i b tok
  refine VCx.loosePure hG (h hw.1) (by simp [bG]) (by simp [ar,TV.ren,hw.1.ren,Tok.ren]) (fun f h=>Nk hw.1 f h) ?_
  have h2:=hw.2
  cases hh:jg b<;>rw [hh] at h2
  ·rw [Qd hh];exact h2
  ·rw [Qc hh];exact h2
 ·exact hw.elim
theorem Ns {G:aU} (hG:dl G) {f:FuncId} (h:∀{b:Bs},IsB b→VCx Tryz.prog G 0 f [.vec 1 b .none] ⟨[], []⟩ fun x T' =>x=vG b∧T' =⟨[], []⟩):∀ro ys T K,EW ro ys T K→VCx Tryz.prog G ro f ys T K:=by
 intro ro ys T K hw
 unfold EW at hw
 split at hw
 ·rename_i b tok
  refine VCx.loosePure hG (h hw.1) (by simp [bG]) (by simp [ar,TV.ren,hw.1.ren,Tok.ren]) (fun f h=>No hw.1 f h) ?_
  have h2:=hw.2
  rw [Qe]
  cases hh:ia b<;>rw [hh] at h2<;>exact h2
 ·exact hw.elim
section
variable {b:Bs} {pas:Int}
def nz:TV:= .val (.slice none 0 0)
theorem S4:TVle (.agg [.val (.int .i64 0), .val (.int .i64 0), .val (.int .i64 0), .val (.int .u32 0),nz,nz, .val (.int .i64 0),nz, .val (.int .u32 0), .val (.int .i64 0), .val (.bool false),nz, .val (.int .i64 0), .val (.int .i64 0),nz]) (.agg m0.cells):=
 .agg ⟨.refl _, .refl _, .refl _, .refl _, .nil 2, .nil 2, .refl _, .nil 1, .refl _, .refl _, .refl _, .nil 2, .refl _, .refl _, .nil 1,trivial⟩
theorem nA {c s:Int} {d:Bs} {dz:TV} {T' :VT} (h:eY b pas= .inl (c,s,d)) (hd:FzX T' dz (.vec 1 d .none)):FzX T' (.tup [.agg [.val (.int .i64 0), .val (.int .i64 0), .val (.int .i64 0), .val (.int .u32 0),nz,nz, .val (.int .i64 0),nz, .val (.int .u32 0), .val (.int .i64 0), .val (.bool false),nz, .val (.int .i64 0), .val (.int .i64 0),nz], .agg [.val (.int .i64 c), .val (.int .i64 s),dz]]) (tA b pas):=by
 obtain ⟨T2,h1,h2⟩:=hd
 unfold tA He
 rw [h]
 exact ⟨T2, .tup (.cons (.le S4) (.cons (.agg (.le (.le (.cons h1 .nil)))) .nil)),h2⟩
theorem sP {m:MsgS} {l:List TV} {T' :VT} (h:eY b pas= .inr m) (hm:TVleL l m.cells):FzX T' (.tup [.agg l, .agg [.val (.int .i64 0), .val (.int .i64 0),nz]]) (tA b pas):=by
 unfold tA He
 rw [h]
 exact .le (.tup ⟨.agg hm, .agg ⟨.refl _, .refl _, .nil 1,trivial⟩,trivial⟩)
theorem De (h:eR b=false):eY b pas= .inl (1,pf b,nw b):=by unfold eY;rw [h];rfl
theorem Hk (h:eR b=true) (hl:b.length<19):eY b pas= .inl (1,2, []):=by unfold eY;rw [h,cond_true,if_pos hl]
theorem Kf (h:eR b=true) (hl:¬b.length<19):eY b pas=if ¬tz b=b.length then .inl (1,2,oh b) else
  if dQ b=1 then (bif iB (b.drop 19) pas then .inr {m0 with k:=dQ b,op:=qp (b.drop 19) pas} else .inl (2,up (b.drop 19) pas,oE (b.drop 19) pas))
  else if dQ b=2 then (bif jg (b.drop 19) then .inr {m0 with k:=dQ b,u:=lH (b.drop 19)} else .inl (3,rL (b.drop 19),nx (b.drop 19)))
  else if dQ b=3 then (bif ia (b.drop 19) then .inr {m0 with k:=dQ b,c:=vR (b.drop 19),s:=vS (b.drop 19),d:=vT (b.drop 19)} else .inl (1,2,oh b))
  else .inr {m0 with k:=dQ b}:=by unfold eY;rw [h,cond_true,if_neg hl]
end
set_option maxHeartbeats 1000000 in
theorem Qk {b:Bs} (hb:IsB b) (pas:Int):VCx Tryz.prog cL 0 Hf [.vec 1 b .none, .val (.int .i64 pas)] ⟨[], []⟩ fun x T' =>x=tA b pas∧T' =⟨[], []⟩:=by
 have hS1:aZ Tryz.prog cL (aC [(Bh,Dd)]):=aJ fun p hp=>by
  obtain rfl:=List.mem_singleton.1 hp;exact Hj fJ Hi
 have hS2:aZ Tryz.prog cL (aC [(Bh,Dd),(KR,EU),(K5,EV),(KQ,EW)]):=aJ fun p hp=>by
  rcases List.mem_cons.1 hp with rfl | hp;exact Hj fJ Hi
  rcases List.mem_cons.1 hp with rfl | hp;exact Nq fJ fun pas h=>VCx.anyG (PD h pas)
  rcases List.mem_cons.1 hp with rfl | hp;exact Nr fJ fun h=>VCx.anyG (P3 h)
  obtain rfl:=List.mem_singleton.1 hp;exact Ns fJ fun h=>VCx.anyG (Pz h)
 refine VCx.fz0 (Dc pas hb) ?_
 by_cases hlen:b.length<19
 ·refine ai ac aa hS1 ah (Qj b pas _) ?_
  refine ⟨hb,am (fun c1=> ?_) (fun c1=> ?_)⟩
  ·exact aQ (decide_eq_true (show ((b.length:Nat):Int)<19 by omega)) (nA (Hk c1 hlen) (.le (.nil 1)))
  ·exact nA (De c1) (.le (.refl _))
 obtain ⟨z0,z1,z2,z3,z4,z5,z6,z7,z8,z9,z10,z11,z12,z13,z14,z15,z16,z17,z18,w,rfl,i0,i1,i2,i3,i4,i5,i6,i7,i8,i9,i10,i11,i12,i13,i14,i15,i16,i17,i18⟩:=Hg hb (by omega)
 have hd:IsB w:=hb.drop 19
 change IsB (Bi (bT z0) (bT z1) (bT z2) (bT z3) (bT z4) (bT z5) (bT z6) (bT z7) (bT z8) (bT z9) (bT z10) (bT z11) (bT z12) (bT z13) (bT z14) (bT z15) (bT z16) (bT z17) (bT z18) w) at hb
 change ¬(Bi (bT z0) (bT z1) (bT z2) (bT z3) (bT z4) (bT z5) (bT z6) (bT z7) (bT z8) (bT z9) (bT z10) (bT z11) (bT z12) (bT z13) (bT z14) (bT z15) (bT z16) (bT z17) (bT z18) w).length<19 at hlen
 have hsz:oh (Bi (bT z0) (bT z1) (bT z2) (bT z3) (bT z4) (bT z5) (bT z6) (bT z7) (bT z8) (bT z9) (bT z10) (bT z11) (bT z12) (bT z13) (bT z14) (bT z15) (bT z16) (bT z17) (bT z18) w)= [bT z16,bT z17]:=rfl
 have hdr:(Bi (bT z0) (bT z1) (bT z2) (bT z3) (bT z4) (bT z5) (bT z6) (bT z7) (bT z8) (bT z9) (bT z10) (bT z11) (bT z12) (bT z13) (bT z14) (bT z15) (bT z16) (bT z17) (bT z18) w).drop 19=w:=rfl
 refine ai ac aa hS2 ah (S3 (bT z0) (bT z1) (bT z2) (bT z3) (bT z4) (bT z5) (bT z6) (bT z7) (bT z8) (bT z9) (bT z10) (bT z11) (bT z12) (bT z13) (bT z14) (bT z15) (bT z16) (bT z17) (bT z18) w pas _) ?_
 refine ⟨hb,am (fun c1=> ?_) (fun c1=> ?_)⟩
 rotate_left
 ·exact nA (De c1) (.le (.refl _))
 have hP:=Kf (b:=Bi (bT z0) (bT z1) (bT z2) (bT z3) (bT z4) (bT z5) (bT z6) (bT z7) (bT z8) (bT z9) (bT z10) (bT z11) (bT z12) (bT z13) (bT z14) (bT z15) (bT z16) (bT z17) (bT z18) w) (pas:=pas) c1 hlen
 rw [hsz,hdr] at hP
 refine am (fun c2=> ?_) (fun c2=> ?_)
 ·exact nA (hP.trans (if_pos (eM c2))) (xg rfl)
 rw [if_neg (fun c=>c (eO c2))] at hP
 refine am (fun c3=> ?_) (fun c3=> ?_)
 ·rw [if_pos (dP c3)] at hP
  refine ⟨hd,am (fun c4=> ?_) (fun c4=> ?_)⟩
  ·exact sP (hP.trans (by rw [show iB w pas=true from c4];rfl)) ⟨.refl _, .refl _, .refl _, .refl _, .refl _, .nil 2, .refl _, .nil 1, .refl _, .refl _, .refl _, .nil 2, .refl _, .refl _, .nil 1,trivial⟩
  ·exact nA (hP.trans (by rw [show iB w pas=false from c4];rfl)) (.le (.refl _))
 rw [if_neg (di c3)] at hP
 refine am (fun c5=> ?_) (fun c5=> ?_)
 ·rw [if_pos (dP c5)] at hP
  refine ⟨hd,am (fun c4=> ?_) (fun c4=> ?_)⟩
  ·exact sP (hP.trans (by rw [show jg w=true from c4];rfl)) ⟨.refl _, .refl _, .refl _, .refl _, .nil 2, .refl _, .refl _, .refl _, .refl _, .refl _, .refl _, .refl _, .refl _, .refl _, .nil 1,trivial⟩
  ·exact nA (hP.trans (by rw [show jg w=false from c4];rfl)) (.le (.refl _))
 rw [if_neg (di c5)] at hP
 refine am (fun c6=> ?_) (fun c6=> ?_)
 ·rw [if_pos (dP c6)] at hP
  refine ⟨hd,am (fun c4=> ?_) (fun c4=> ?_)⟩
  ·exact sP (hP.trans (by rw [show ia w=true from c4];rfl)) ⟨.refl _, .refl _, .refl _, .refl _, .nil 2, .nil 2, .refl _, .nil 1, .refl _, .refl _, .refl _, .nil 2, .refl _, .refl _, .refl _,trivial⟩
  ·exact nA (hP.trans (by rw [show ia w=false from c4];rfl)) (xg rfl)
 rw [if_neg (di c6)] at hP
 exact sP hP ⟨.refl _, .refl _, .refl _, .refl _, .nil 2, .nil 2, .refl _, .nil 1, .refl _, .refl _, .refl _, .nil 2, .refl _, .refl _, .nil 1,trivial⟩
end
section
open Go.RowKit

def UG (x:Bs):Prop:=∃l:List Int,x=iV l∧l.length≤2000000
def vU (b:Bs) (pas:Int):MsgS:=match eY b pas with
 | .inr m=>m
 | .inl _=>m0
def rM (b:Bs) (pas:Int):Int:=match eY b pas with
 | .inr _=>0
 | .inl p=>p.1
def vV (b:Bs) (pas:Int):Int:=match eY b pas with
 | .inr _=>0
 | .inl p=>p.2.1
def Bj (b:Bs) (pas:Int):Bs:=match eY b pas with
 | .inr _=> []
 | .inl p=>p.2.2
theorem Ql (b:Bs) (pas:Int):tA b pas= .tup [.agg (vU b pas).cells,cT (rM b pas) (vV b pas) (Bj b pas)]:=by
 unfold tA He vU rM vV Bj
 cases eY b pas with
 | inl p=>rfl
 | inr m=>rfl
end
section
open Go.RowKit

section
variable {P:Program} {G:aU}
theorem kz {j len:Nat} (h:j<len) (hlen:len≤2000000):IntKind.wrap IntKind.i64 (((j:Nat):Int)+(1:Int))=((j+1:Nat):Int):=by
 simp only [IntKind.wrap,IntKind.bits,IntKind.signed];simp;omega
theorem Nt {f:FuncId} {id:Nat} (hc:jk id (aH P f id)=true) (n:Nat) (keys:List Nat) (sl:Int→List TV) (T:VT) (len:Nat) (Post:Exit→List TV→VT→Prop)
  (hbody:∀j:Nat,j≤len→VWx P G none 0 (cI P f id) (aR n keys (sl j)) T [] (dm keys fun e vs T' D m=>D= []∧m=n∧match e with
   | .normal=>j<len∧((T' =T∧vs=sl (j+1:Nat))∨(T'.keep T.objs.length T.tails.length=T∧ar (aw T.objs.length) (aw T.tails.length) vs=sl (j+1:Nat)))
   | .exit i=>cond (Nat.beq i id) (Post .normal vs T') (Post (.exit i) vs T')
   | e=>Post e vs T')):
  ∀K:KX,(∀e vs T',Post e vs T' →K e (aR n keys vs) T' [])→VWx P G none 0 (aH P f id) (aR n keys (sl (0:Nat))) T [] K:=by
 intro K hK
 refine dS (f:=f) (id:=id) hc n keys (fun j:Nat=>len-j) (fun j:Nat=>sl j) (fun _=>T) (fun j=>j≤len) T.objs.length T.tails.length (fun _ _=>⟨Nat.le_refl _,Nat.le_refl _⟩) Post (fun j hj=> ?_) 0 (Nat.zero_le _) K hK
 refine (hbody j hj).mono fun e σ T' D hq=> ?_
 obtain ⟨h1,h2,h3⟩:=hq
 refine ⟨h1,h2, ?_⟩
 cases e
 case normal=>
  obtain ⟨hlt,h4⟩:=h3
  refine ⟨j+1,hlt,by show len-(j+1)<len-j;omega, ?_⟩
  exact h4
 case exit i=>exact h3
 all_goals exact h3
end
theorem mm:∀l:List Int,kJ (bV l)=some l
 | []=>rfl
 | z::l=>by
  have h:=mm l
  simp only [bV,List.map_cons] at h ⊢
  simp only [bT,kJ,h]
  rfl
def pZ (d:Bs):ByteArray:=uO ((kJ d).getD [])
end
section
open Go.RowKit

abbrev lX:=57
abbrev iC:=58
abbrev p9:=128
abbrev Bk:=173
abbrev nB:=152
abbrev tB:=181
abbrev tC:=133
abbrev rN:=105
def co (n k:Int):Prop:=(0≤n∧n≤1000000000000000)∧0≤k∧k≤8
def gH (b:Bs):Prop:=IsB b∧b≠ []
def ap (k n:Int):Bs:=rt k.toNat n.toNat
def Kg (a n:Int):Prop:=kD n∧hJ a n=a
def uq (a n:Int):Prop:=(0≤a∧a<4294967296)∧Kg a n
def lY (n:Int):Nat:=((n+7)/8).toNat
def gl (a n:Int):Bs:=bT n::(ap 4 a).take (lY n)
def qa:aV:=fun _ ys T K=>match ys with
 | [x, .val (.int .u64 n), .val (.int .i64 k)]=>match x with
  | .val (.slice none 0 0)=>co n k∧K (.vec 1 (ap k n) .none) T
  | .vec 1 b _=>(co n k∧gH b)∧K (.vec 1 (b++ap k n) .none) T
  | _=>aN 85 default ys
 | _=>aN 84 default ys
def jr (kd:IntKind) (k:Int):aV:=fun _ ys T K=>match ys with
 | [x, .val (.int q n)]=>(q=kd)∧match x with
  | .val (.slice none 0 0)=>co n k∧K (.vec 1 (ap k n) .none) T
  | .vec 1 b _=>(co n k∧gH b)∧K (.vec 1 (b++ap k n) .none) T
  | _=>aN 85 default ys
 | _=>aN 84 default ys
def Ld:aV:=fun _ ys T K=>match ys with
 | [.agg [.val (.int .u32 a), .val (.int .i64 n)]]=>Kg a n∧K (.agg [.val (.int .u32 a), .val (.int .i64 n)]) T
 | _=>aN 84 default ys
def Le:aV:=fun _ ys T K=>match ys with
 | [.agg [.val (.int .u32 a), .val (.int .i64 n)]]=>uq a n∧K (.vec 1 (gl a n) .none) T
 | _=>aN 84 default ys
def Hl:List Nat:= [3,6,7,8]
def Df (B L:Bs) (j:Int):List TV:= [.vec 1 B (.tail 0 B.length), .vec 2 L .none, .val (.int .i64 L.length), .val (.int .i64 j)]
def Ue (B L:Bs) (c0:Code):Nat→Option (b6 × Code):=cJ [(0,eU 18 Hl [(3,1)] (Df [] L 0) ⟨[], [(0,1,true)]⟩ fun K=>K .normal (aR 18 Hl (Df B L L.length)) ⟨[], [(B.length,1,true)]⟩ [],c0)]
def Dg:List Nat:= [0,1,4,7,8]
def yv (l:Bs) (r j:Int):List TV:= [.vec 1 l .none, .fn (.func 169) [] [], .val (.int .i64 r), .val (.int .i64 l.length), .val (.int .i64 j)]
def UQ (l:Bs) (ok:Bool) (K:KX):Prop:=∀z:Nat,bif ok then K .normal (aR 19 Dg (yv l 0 l.length)) ⟨[], []⟩ [] else K .ret (aR 19 Dg (yv l z z)) ⟨[], []⟩ []
def Uf (l:Bs) (ok:Bool) (c0:Code):Nat→Option (b6 × Code):=cJ [(0,eU 19 Dg [] (yv l 0 0) ⟨[], []⟩ (UQ l ok),c0)]
def vW:List Nat:= [0,1,4,12,13]
def pg (s:Nat) (l m:Bs) (j:Int):List TV:= [.vec s l .none, .vec s m .none, .val (.bool false), .val (.int .i64 l.length), .val (.int .i64 j)]
def UR (s:Nat) (l m:Bs) (ok:Bool) (K:KX):Prop:=(@Eq Nat l.length m.length)∧∀z:Int,bif ok then K .normal (aR 26 vW (pg s l m l.length)) ⟨[], []⟩ [] else K .ret (aR 26 vW (pg s l m z)) ⟨[], []⟩ []
def E7 (s:Nat) (l m:Bs) (ok:Bool) (c0:Code):Nat→Option (b6 × Code):=cJ [(0,eU 26 vW [] (pg s l m 0) ⟨[], []⟩ (UR s l m ok),c0)]
theorem S5 (b:Bs) (tok:Tok) (n:Int) (Q:TV→VT→Prop):au Tryz.prog ae (aC [(dN,qa)]) aT 300 aK 0 lX [.vec 1 b tok, .val (.int .i64 n)] ⟨[], []⟩ Q=
 ((co (IntKind.wrap IntKind.u64 n) 1∧
 gH (b))∧
 Q (.vec 1 (b++ap (1:Int) (IntKind.wrap IntKind.u64 n)) .none) ⟨[], []⟩):=by kernel_rfl
theorem Qm (n:Int) (Q:TV→VT→Prop):au Tryz.prog ae (aC [(dN,qa)]) aT 300 aK 0 lX [.val (.slice none 0 0), .val (.int .i64 n)] ⟨[], []⟩ Q=
 (co (IntKind.wrap IntKind.u64 n) 1∧
 Q (.vec 1 (ap (1:Int) (IntKind.wrap IntKind.u64 n)) .none) ⟨[], []⟩):=by kernel_rfl
theorem Qn (b:Bs) (tok:Tok) (n:Int) (Q:TV→VT→Prop):au Tryz.prog ae (aC [(dN,qa)]) aT 300 aK 0 iC [.vec 1 b tok, .val (.int .i64 n)] ⟨[], []⟩ Q=
 ((co (IntKind.wrap IntKind.u64 n) 2∧
 gH (b))∧
 Q (.vec 1 (b++ap (2:Int) (IntKind.wrap IntKind.u64 n)) .none) ⟨[], []⟩):=by kernel_rfl
theorem Nu (n:Int) (Q:TV→VT→Prop):au Tryz.prog ae (aC [(dN,qa)]) aT 300 aK 0 iC [.val (.slice none 0 0), .val (.int .i64 n)] ⟨[], []⟩ Q=
 (co (IntKind.wrap IntKind.u64 n) 2∧
 Q (.vec 1 (ap (2:Int) (IntKind.wrap IntKind.u64 n)) .none) ⟨[], []⟩):=by kernel_rfl
theorem Qo (b:Bs) (tok:Tok) (n:Int) (Q:TV→VT→Prop):au Tryz.prog ae (aC [(dN,qa)]) aT 300 aK 0 p9 [.vec 1 b tok, .val (.int .u32 n)] ⟨[], []⟩ Q=
 ((co (IntKind.wrap IntKind.u64 n) 4∧
 gH (b))∧
 Q (.vec 1 (b++ap (4:Int) (IntKind.wrap IntKind.u64 n)) .none) ⟨[], []⟩):=by kernel_rfl
theorem Nv (n:Int) (Q:TV→VT→Prop):au Tryz.prog ae (aC [(dN,qa)]) aT 300 aK 0 p9 [.val (.slice none 0 0), .val (.int .u32 n)] ⟨[], []⟩ Q=
 (co (IntKind.wrap IntKind.u64 n) 4∧
 Q (.vec 1 (ap (4:Int) (IntKind.wrap IntKind.u64 n)) .none) ⟨[], []⟩):=by kernel_rfl
theorem Qp (a n:Int) (q c:Bs) (e:Nat) (Q:TV→VT→Prop):au Tryz.prog ae (aC [(p9,jr .u32 4),(ko,Ld)]) (bc [(999998, .dead,none),(16, .vec 1 q .none,none),(17, .vec 1 c (.tail 0 e),some fun T=>{T with tails:= [(e,1,false)]})]) 300 aK 0 Bk [.agg [.val (.int .u32 a), .val (.int .i64 n)]] ⟨[], []⟩ Q=
 (Kg (a) (n)∧
 ((@Eq (IntKind) .u32 .u32)∧
 (co (a) 4∧
 (((@Eq (Option TV) (.some (.val (.int .i64 (n)))) (.some (.val (.int .i64 (n)))))∧
 ((@Eq (Option TV) (.some (.val (.int .u32 (a)))) (.some (.val (.int .u32 (a)))))∧
 ((@Eq (Option TV) (.some (.val (.int .i64 (n)))) (.some (.val (.int .i64 (n)))))∧
 True)))∧
 (((@Eq (Option TV) (.some (.val (.int .i64 (n)))) (.some (.val (.int .i64 (n)))))∧
 ((@Eq (Option TV) (.some (.val (.int .u32 (a)))) (.some (.val (.int .u32 (a)))))∧
 ((@Eq (Option TV) (.some (.val (.int .i64 (n)))) (.some (.val (.int .i64 (n)))))∧
 True)))∧
 (bo Tryz.prog (fun _=> .none) (.slice 22 (.tmp 12) .none (.some (.tmp 15)) .none) [(12,(.vec 1 (ap (4:Int) a) .none)),(15,(.val (.int .i64 (IntKind.wrap IntKind.i64 (Int.tdiv (IntKind.wrap IntKind.i64 (IntKind.wrap IntKind.i64 (n+(8:Int))-(1:Int))) (8:Int))))))] (.vec 1 (q) .none)∧
 (ba Tryz.prog (fun _=> .none) 0 ⟨[(.cells [(.val (.int .u32 (a))),(.val (.int .i64 (n)))]),(.cells [(.val (.int .u32 (a))),(.val (.int .i64 (n)))])], []⟩ (.call ⟨(.builtin .append), #[(.tmp 9),(.tmp 16)], #[22,22]⟩) [(9,(.vec 1 [[(.val (.int .u8 (IntKind.wrap IntKind.u8 n)))]] .full)),(16,(.vec 1 (q) .none))] (.vec 1 (c) (.tail 0 (e))) ⟨[(.cells [(.val (.int .u32 (a))),(.val (.int .i64 (n)))]),(.cells [(.val (.int .u32 (a))),(.val (.int .i64 (n)))])], [((e),(1,false))]⟩∧
 Q (.vec 1 (c) (.tail 0 (e))) ⟨[(.cells [(.val (.int .u32 (a))),(.val (.int .i64 (n)))]),(.cells [(.val (.int .u32 (a))),(.val (.int .i64 (n)))])], [((e),(1,false))]⟩))))))):=by kernel_rfl
theorem Qq (B L:Bs) (Q:TV→VT→Prop):au Tryz.prog ae br aT 300 (Ue B L (aH Tryz.prog nB 0)) 0 nB [.vec 2 L .none] ⟨[], []⟩ Q=
 ((aH Tryz.prog nB (0:Nat)=aH Tryz.prog nB (0:Nat))∧
 (((@Eq (Option Nat) .none .none)∧
 ((@Eq (Nat) 0 0)∧
 ((@Eq (List Nat) [] [])∧
 (((@Eq (Option TV) (.some (.val (.slice .none 0 0))) (.some (.val (.slice .none 0 0))))∧
 True)∧
 ((@Eq (VT) ⟨[], [(0,(1,true))]⟩ ⟨[], [(0,(1,true))]⟩)∧
 ((@Eq (Bool) true true)∧
 (@Eq (List TV) [(.vec 1 [] (.tail 0 0)),(.vec 2 (L) .none),(.val (.int .i64 ((↑(List.length L):Int)))),(.val (.int .i64 0))] [(.vec 1 [] (.tail 0 0)),(.vec 2 (L) .none),(.val (.int .i64 ((↑(List.length L):Int)))),(.val (.int .i64 0))])))))))∧
 Q (.vec 1 (B) (.tail 0 (List.length B))) ⟨[], [((List.length B),(1,true))]⟩)):=by kernel_rfl
theorem Dh (B B2 L:Bs) (a n:Int) (j:Nat) (Q:Exit→List TV→VT→List Nat→Nat→Prop):vx Tryz.prog ae (aC [(Bk,Le)]) (bc [(999999, .dead,none),(10, .elt [.val (.int .u32 a), .val (.int .i64 n)],none),(15, .vec 1 B2 (.tail 0 B2.length),some fun T=>{T with tails:= [(B2.length,1,true)]})]) 300 aK none 0 (cI Tryz.prog nB 0) (aR 18 Hl (Df B L j)) ⟨[], [(B.length,1,true)]⟩ [] (dm Hl Q)=
 (bif decide ((↑j:Int)<(↑(List.length L):Int))
 then (bo Tryz.prog (fun _=> .none) (.indexAddr 58 (.tmp 6) (.tmp 8)) [(6,(.vec 2 (L) .none)),(8,(.val (.int .i64 ((↑j:Int)))))] (.elt [(.val (.int .u32 (a))),(.val (.int .i64 (n)))])∧
 (uq (a) (n)∧
 (ba Tryz.prog (fun _=> .none) 0 ⟨[(.cells [(.val (.int .u32 (a))),(.val (.int .i64 (n)))])], [((List.length B),(1,true))]⟩ (.call ⟨(.builtin .append), #[(.tmp 12),(.tmp 14)], #[22,22]⟩) [(12,(.vec 1 (B) (.tail 0 (List.length B)))),(14,(.vec 1 (gl a n) .none))] (.vec 1 (B2) (.tail 0 (List.length B2))) ⟨[(.cells [(.val (.int .u32 (a))),(.val (.int .i64 (n)))])], [((List.length B2),(1,true))]⟩∧
 Q .normal [(.vec 1 (B2) (.tail 0 (List.length B2))),(.vec 2 (L) .none),(.val (.int .i64 ((↑(List.length L):Int)))),(.val (.int .i64 (IntKind.wrap IntKind.i64 ((↑j:Int)+(1:Int)))))] ⟨[(.cells [(.val (.int .u32 (a))),(.val (.int .i64 (n)))])], [((List.length B2),(1,true))]⟩ [] 18)))
 else Q (.exit 0) [(.vec 1 (B) (.tail 0 (List.length B))),(.vec 2 (L) .none),(.val (.int .i64 ((↑(List.length L):Int)))),(.val (.int .i64 ((↑j:Int))))] ⟨[], [((List.length B),(1,true))]⟩ [] 18):=by kernel_rfl
theorem S6 (l:Bs) (ok:Bool) (Q:TV→VT→Prop):au Tryz.prog ae br aT 300 (Uf l ok (aH Tryz.prog tB 0)) 0 tB [.vec 1 l .none, .fn (.func 169) [] []] ⟨[], []⟩ Q=
 ((aH Tryz.prog tB (0:Nat)=aH Tryz.prog tB (0:Nat))∧
 (((@Eq (Option Nat) .none .none)∧
 ((@Eq (Nat) 0 0)∧
 ((@Eq (List Nat) [] [])∧
 (True  ∧
 ((@Eq (VT) ⟨[], []⟩ ⟨[], []⟩)∧
 ((@Eq (Bool) true true)∧
 (@Eq (List TV) [(.vec 1 (l) .none),(.fn (.func 169) [] []),(.val (.int .i64 0)),(.val (.int .i64 ((↑(List.length l):Int)))),(.val (.int .i64 0))] [(.vec 1 (l) .none),(.fn (.func 169) [] []),(.val (.int .i64 0)),(.val (.int .i64 ((↑(List.length l):Int)))),(.val (.int .i64 0))])))))))∧
 (∀z:Nat,(bif ok
 then Q (.val (.int .i64 (-1))) ⟨[], []⟩
 else Q (.val (.int .i64 ((↑z:Int)))) ⟨[], []⟩)))):=by kernel_rfl
theorem Hm (l:Bs) (z:Int) (j:Nat) (Q:Exit→List TV→VT→List Nat→Nat→Prop):vx Tryz.prog ae br (bc [(14, .elt [.val (.int .i64 z)],none)]) 300 aK none 0 (cI Tryz.prog tB 0) (aR 19 Dg (yv l 0 j)) ⟨[], []⟩ [] (dm Dg Q)=
 (bif decide ((↑j:Int)<(↑(List.length l):Int))
 then (bo Tryz.prog (fun _=> .none) (.indexAddr 59 (.tmp 12) (.tmp 13)) [(12,(.vec 1 (l) .none)),(13,(.val (.int .i64 ((↑j:Int)))))] (.elt [(.val (.int .i64 (z)))])∧
 (bif decide (z≥(1:Int))
 then (bif !decide (z≤(65535:Int))
 then Q .ret [(.vec 1 (l) .none),(.fn (.func 169) [] []),(.val (.int .i64 ((↑j:Int)))),(.val (.int .i64 ((↑(List.length l):Int)))),(.val (.int .i64 ((↑j:Int))))] ⟨[], []⟩ [] 19
 else Q .normal [(.vec 1 (l) .none),(.fn (.func 169) [] []),(.val (.int .i64 0)),(.val (.int .i64 ((↑(List.length l):Int)))),(.val (.int .i64 (IntKind.wrap IntKind.i64 ((↑j:Int)+(1:Int)))))] ⟨[], []⟩ [] 19)
 else Q .ret [(.vec 1 (l) .none),(.fn (.func 169) [] []),(.val (.int .i64 ((↑j:Int)))),(.val (.int .i64 ((↑(List.length l):Int)))),(.val (.int .i64 ((↑j:Int))))] ⟨[], []⟩ [] 19))
 else Q (.exit 0) [(.vec 1 (l) .none),(.fn (.func 169) [] []),(.val (.int .i64 0)),(.val (.int .i64 ((↑(List.length l):Int)))),(.val (.int .i64 ((↑j:Int))))] ⟨[], []⟩ [] 19):=by kernel_rfl
theorem Lf (l m:Bs) (ok:Bool) (Q:TV→VT→Prop):au Tryz.prog ae br aT 300 (E7 1 l m ok (aH Tryz.prog tC 0)) 0 tC [.vec 1 l .none, .vec 1 m .none] ⟨[], []⟩ Q=
 (bif av BinOp.neq (aP (Value.int IntKind.i64 (↑(List.length l):Int)) (Value.int IntKind.i64 (↑(List.length m):Int)))
 then Q (.val (.bool false)) ⟨[], []⟩
 else ((aH Tryz.prog tC (0:Nat)=aH Tryz.prog tC (0:Nat))∧
 (((@Eq (Option Nat) .none .none)∧
 ((@Eq (Nat) 0 0)∧
 ((@Eq (List Nat) [] [])∧
 (True  ∧
 ((@Eq (VT) ⟨[], []⟩ ⟨[], []⟩)∧
 ((@Eq (Bool) true true)∧
 (@Eq (List TV) [(.vec 1 (l) .none),(.vec 1 (m) .none),(.val (.bool false)),(.val (.int .i64 ((↑(List.length l):Int)))),(.val (.int .i64 0))] [(.vec 1 (l) .none),(.vec 1 (m) .none),(.val (.bool false)),(.val (.int .i64 ((↑(List.length l):Int)))),(.val (.int .i64 0))])))))))∧
 ((@Eq (Nat) (List.length l) (List.length m))∧
 (∀z:Int,(bif ok
 then Q (.val (.bool true)) ⟨[], []⟩
 else Q (.val (.bool false)) ⟨[], []⟩)))))):=by kernel_rfl
theorem Hn (l m:Bs) (x y:Int) (j:Nat) (Q:Exit→List TV→VT→List Nat→Nat→Prop):vx Tryz.prog ae br (bc [(18, .elt [.val (.int .i64 x)],none),(22, .elt [.val (.int .i64 y)],none)]) 300 aK none 0 (cI Tryz.prog tC 0) (aR 26 vW (pg 1 l m j)) ⟨[], []⟩ [] (dm vW Q)=
 (bif decide ((↑j:Int)<(↑(List.length l):Int))
 then (bo Tryz.prog (fun _=> .none) (.indexAddr 59 (.tmp 16) (.tmp 17)) [(16,(.vec 1 (l) .none)),(17,(.val (.int .i64 ((↑j:Int)))))] (.elt [(.val (.int .i64 (x)))])∧
 (bo Tryz.prog (fun _=> .none) (.indexAddr 59 (.tmp 20) (.tmp 21)) [(20,(.vec 1 (m) .none)),(21,(.val (.int .i64 ((↑j:Int)))))] (.elt [(.val (.int .i64 (y)))])∧
 (bif av BinOp.neq (aP (Value.int IntKind.i64 x) (Value.int IntKind.i64 y))
 then Q .ret [(.vec 1 (l) .none),(.vec 1 (m) .none),(.val (.bool false)),(.val (.int .i64 ((↑(List.length l):Int)))),(.val (.int .i64 ((↑j:Int))))] ⟨[], []⟩ [] 26
 else Q .normal [(.vec 1 (l) .none),(.vec 1 (m) .none),(.val (.bool false)),(.val (.int .i64 ((↑(List.length l):Int)))),(.val (.int .i64 (IntKind.wrap IntKind.i64 ((↑j:Int)+(1:Int)))))] ⟨[], []⟩ [] 26)))
 else Q (.exit 0) [(.vec 1 (l) .none),(.vec 1 (m) .none),(.val (.bool false)),(.val (.int .i64 ((↑(List.length l):Int)))),(.val (.int .i64 ((↑j:Int))))] ⟨[], []⟩ [] 26):=by kernel_rfl
theorem Lg (l m:Bs) (ok:Bool) (Q:TV→VT→Prop):au Tryz.prog ae br aT 300 (E7 2 l m ok (aH Tryz.prog rN 0)) 0 rN [.vec 2 l .none, .vec 2 m .none] ⟨[], []⟩ Q=
 (bif av BinOp.neq (aP (Value.int IntKind.i64 (↑(List.length l):Int)) (Value.int IntKind.i64 (↑(List.length m):Int)))
 then Q (.val (.bool false)) ⟨[], []⟩
 else ((aH Tryz.prog rN (0:Nat)=aH Tryz.prog rN (0:Nat))∧
 (((@Eq (Option Nat) .none .none)∧
 ((@Eq (Nat) 0 0)∧
 ((@Eq (List Nat) [] [])∧
 (True  ∧
 ((@Eq (VT) ⟨[], []⟩ ⟨[], []⟩)∧
 ((@Eq (Bool) true true)∧
 (@Eq (List TV) [(.vec 2 (l) .none),(.vec 2 (m) .none),(.val (.bool false)),(.val (.int .i64 ((↑(List.length l):Int)))),(.val (.int .i64 0))] [(.vec 2 (l) .none),(.vec 2 (m) .none),(.val (.bool false)),(.val (.int .i64 ((↑(List.length l):Int)))),(.val (.int .i64 0))])))))))∧
 ((@Eq (Nat) (List.length l) (List.length m))∧
 (∀z:Int,(bif ok
 then Q (.val (.bool true)) ⟨[], []⟩
 else Q (.val (.bool false)) ⟨[], []⟩)))))):=by kernel_rfl
theorem Ho (l m:Bs) (a n c p:Int) (j:Nat) (Q:Exit→List TV→VT→List Nat→Nat→Prop):vx Tryz.prog ae br (bc [(18, .elt [.val (.int .u32 a), .val (.int .i64 n)],none),(22, .elt [.val (.int .u32 c), .val (.int .i64 p)],none)]) 300 aK none 0 (cI Tryz.prog rN 0) (aR 26 vW (pg 2 l m j)) ⟨[], []⟩ [] (dm vW Q)=
 (bif decide ((↑j:Int)<(↑(List.length l):Int))
 then (bo Tryz.prog (fun _=> .none) (.indexAddr 58 (.tmp 16) (.tmp 17)) [(16,(.vec 2 (l) .none)),(17,(.val (.int .i64 ((↑j:Int)))))] (.elt [(.val (.int .u32 (a))),(.val (.int .i64 (n)))])∧
 (bo Tryz.prog (fun _=> .none) (.indexAddr 58 (.tmp 20) (.tmp 21)) [(20,(.vec 2 (m) .none)),(21,(.val (.int .i64 ((↑j:Int)))))] (.elt [(.val (.int .u32 (c))),(.val (.int .i64 (p)))])∧
 (bif av BinOp.neq (aP ((fun vs=>Value.agg (List.toArray vs)) ((fun x=>Value.int IntKind.u32 a::x) ((fun x=>Value.int IntKind.i64 n::x) []))) ((fun vs=>Value.agg (List.toArray vs)) ((fun x=>Value.int IntKind.u32 c::x) ((fun x=>Value.int IntKind.i64 p::x) []))))
 then Q .ret [(.vec 2 (l) .none),(.vec 2 (m) .none),(.val (.bool false)),(.val (.int .i64 ((↑(List.length l):Int)))),(.val (.int .i64 ((↑j:Int))))] ⟨[], []⟩ [] 26
 else Q .normal [(.vec 2 (l) .none),(.vec 2 (m) .none),(.val (.bool false)),(.val (.int .i64 ((↑(List.length l):Int)))),(.val (.int .i64 (IntKind.wrap IntKind.i64 ((↑j:Int)+(1:Int)))))] ⟨[], []⟩ [] 26)))
 else Q (.exit 0) [(.vec 2 (l) .none),(.vec 2 (m) .none),(.val (.bool false)),(.val (.int .i64 ((↑(List.length l):Int)))),(.val (.int .i64 ((↑j:Int))))] ⟨[], []⟩ [] 26):=by kernel_rfl
end

end Go.Proofs.YtogbdjlelkepcaaGreatDoor