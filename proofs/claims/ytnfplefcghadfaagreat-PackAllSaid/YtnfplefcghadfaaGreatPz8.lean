/-Part 8 of the proof of packAll_holds:PqJ,PqK,PqL ... No condition. -/
import Derived.LaidHandle
import Derived.ProofKit
import Derived.OpenShut
import Derived.Lib.SmallJoins
import Derived.Test.YtnfplefcghadfaaGreatPz1
import Derived.Test.YtnfplefcghadfaaGreatPz2
import Derived.Test.YtnfplefcghadfaaGreatPz3
import Derived.Test.YtnfplefcghadfaaGreatPz4
import Derived.Test.YtnfplefcghadfaaGreatPz5
import Derived.Test.YtnfplefcghadfaaGreatPz6
import Derived.Test.YtnfplefcghadfaaGreatPz7
set_option maxRecDepth 100000
namespace Go.Proofs.YtnfplefcghadfaaGreat
section
open Go.RowKit Go.Deep Go.WideShapes Go.ChangeAt
set_option maxRecDepth 100000

theorem jf {P:Program} {G:aK} {t t2:TypeId} {x y a b:Nat} {r:Bool} (hne:Nat.beq x y=false) (hu:P.underlying t=some (.int .i64)) (hr:decide (a<b)=r):ax P G (.binOp .lss t (.tmp x) (.tmp y) t2) [(x, .val (.int .i64 (a:Int))),(y, .val (.int .i64 (b:Int)))] (.val (.bool r)):=by
 subst hr
 refine ⟨?_⟩
 simp [bq,bb,bX,hne,yG,tz,nT,ce,eqGuard,binOp,hu,tj]
 simp [bE,Op.intCmp]
 rfl
theorem pc {P:Program} {G:aK} {t t2:TypeId} {x y a b:Nat} {r:Bool} (hne:Nat.beq x y=false) (hu:P.underlying t=some (.int .i64)) (hr:decide (b≤a)=r):ax P G (.binOp .geq t (.tmp x) (.tmp y) t2) [(x, .val (.int .i64 (a:Int))),(y, .val (.int .i64 (b:Int)))] (.val (.bool r)):=by
 subst hr
 refine ⟨?_⟩
 simp [bq,bb,bX,hne,yG,tz,nT,ce,eqGuard,binOp,hu,tj]
 simp [bE,Op.intCmp]
 rfl
theorem BY {l:List Ch} (h:l.length≤60):ci l=true:=decide_eq_true (by have h1:=FS (aZ l);have h2:=zA l;omega)
theorem Af {l:List Ch} (h:l.length≤60):∀f n,n≤l.length→l.length≤n+f→nf ci l f n=l.length
 | 0,n,h1,h2=>by show n=_;omega
 | f+1,n,h1,h2=>by
  unfold nf
  rw [BY (l:=l.take (n+1)) (by rw [List.length_take];omega),Bool.and_true]
  by_cases hn:n<l.length
  ·rw [decide_eq_true hn,cond_true];exact Af h f (n+1) hn (by omega)
  ·rw [decide_eq_false hn,cond_false];omega
theorem x9 {l:List Ch} (hne:l≠ []) (h:l.length≤60):bR l= [aZ l]:=by
 have hp:=List.length_pos_iff.2 hne
 unfold bR
 rw [qv hne,show cL ci l=l.length from Af h l.length 1 hp (by omega),List.take_length,List.drop_length]
 rfl
def pR (l:List Ch):List UpV:=bR (l.filter fun c=>c.2.2)++cW (l.filter fun c=> !c.2.2)
def aC (l:List Ch) (c:Ch):Bool:=bif l.any (fun c=>c.2.2) then c.2.2 else decide (c.2.1=(l.headD ((0,0),bm,false)).2.1)
theorem ta {l:List Ch} (h:l.any (fun c=>c.2.2)=true) (c:Ch):aC l c=c.2.2:=by unfold aC;rw [h];rfl
theorem mz {l:List Ch} (h:l.any (fun c=>c.2.2)=false) (c:Ch):aC l c=decide (c.2.1=(l.headD ((0,0),bm,false)).2.1):=by unfold aC;rw [h];rfl
theorem pd {l:List Ch} (h:∀c∈l,c.2.2=false):(l.filter fun c=>c.2.2)= []∧(l.filter fun c=> !c.2.2)=l:=
 ⟨List.filter_eq_nil_iff.2 fun c hc=>by rw [h c hc];decide,List.filter_eq_self.2 fun c hc=>by rw [h c hc];rfl⟩
theorem BZ {l:List Ch} (hne:l≠ []) (h:l.length≤60):pR l=aZ (l.filter (aC l))::pR (l.filter fun c=> !aC l c):=by
 cases ha:l.any (fun c=>c.2.2) with
 | true=>
  have e1:aC l=fun c=>c.2.2:=funext fun c=>ta ha c
  obtain ⟨c,hc,hg⟩:=List.any_eq_true.1 ha
  have hn:(l.filter fun c=>c.2.2)≠ []:=fun he=>by
   have:=List.mem_filter (p:=fun c:Ch=>c.2.2).2 ⟨hc,hg⟩
   rw [he] at this;cases this
  have hno:=pd (l:=l.filter fun c=> !c.2.2) fun c hc=>by have:=(List.mem_filter.1 hc).2;simpa using this
  rw [e1]
  unfold pR
  rw [x9 hn (Nat.le_trans (List.length_filter_le _ _) h),hno.1,hno.2]
  rfl
 | false=>
  have hall:∀c∈l,c.2.2=false:=fun c hc=>by
   have:=List.any_eq_false.1 ha c hc
   simpa using this
  have hno:=pd hall
  have e1:aC l=fun c=>decide (c.2.1=(l.headD ((0,0),bm,false)).2.1):=funext fun c=>mz ha c
  have hno2:=pd (l:=l.filter fun c=> !aC l c) fun c hc=>hall c (List.mem_filter.1 hc).1
  unfold pR
  rw [hno2.1,hno2.2,hno.1,hno.2,e1]
  cases l with
  | nil=>exact absurd rfl hne
  | cons c t=>
   have hn:((c::t).filter fun x=>decide (x.2.1=c.2.1))≠ []:=fun he=>by
    have:=List.mem_filter (p:=fun x:Ch=>decide (x.2.1=c.2.1)).2 ⟨List.mem_cons_self (a:=c) (l:=t),decide_eq_true rfl⟩
    rw [he] at this;cases this
   rw [jD]
   show []++(bR _++cW _)=_
   rw [x9 hn (Nat.le_trans (List.length_filter_le _ _) h)]
   rfl
theorem F0 {s:List Ch} {c:Ch} (hl:Like (s++ [c])):bC (aZ s) c=(aZ (s++ [c]),true):=by
 obtain ⟨p,a,g⟩:=c
 rcases hl with h | ⟨b,h⟩
 ·have h1:=h _ (List.mem_append.2 (.inr List.mem_cons_self))
  cases h1
  cases s with
  | nil=>rfl
  | cons d t=>
   have h2:=h d (List.mem_append.2 (.inl List.mem_cons_self))
   obtain ⟨q,b,k⟩:=d
   cases h2
   unfold bC aZ
   simp
 ·have h1:=h _ (List.mem_append.2 (.inr List.mem_cons_self))
  cases h1
  cases s with
  | nil=>rfl
  | cons d t=>
   have h2:=h d (List.mem_append.2 (.inl List.mem_cons_self))
   obtain ⟨q,b,k⟩:=d
   cases h2
   unfold bC aZ
   simp
theorem ya (c:Ch) (l:List Ch):aZ (c::l)=bif c.2.2 then ⟨(c::l).map (·.1),bm, []⟩ else ⟨[],c.2.1,(c::l).map (·.1)⟩:=rfl
theorem MN {s:List Ch} (hs:s.length≤60) (h:∀c∈s,c.2.1.p.length≤9223372036854775807∧gg c.1.1 c.1.2):(aZ s).w.length≤60∧(aZ s).n.length≤60∧kI (aZ s):=by
 have hl:=zA s
 refine ⟨by omega,by omega,by omega,by omega, ?_, ?_⟩
 ·cases s with
  | nil=>exact Nat.zero_le _
  | cons c l=>
   have:=(h c List.mem_cons_self).1
   rw [ya]
   cases c.2.2
   ·exact this
   ·exact Nat.zero_le _
 ·cases s with
  | nil=>intro p hp;cases hp
  | cons c l=>
   have hm:∀p∈(c::l).map (·.1),gg p.1 p.2:=fun p hp=>by
    obtain ⟨d,hd,rfl⟩:=List.mem_map.1 hp
    exact (h d hd).2
   rw [ya]
   cases c.2.2
   ·exact fun p hp=>hm p hp
   ·exact fun p hp=>hm p (by rcases List.mem_append.1 hp with h | h;exact h;cases h)
def gF (s:List Ch):List TV:=bif s.isEmpty then FX else (aZ s).cells
theorem Jn (s:List Ch):(∃c0 c1 c2 c3 c4 c5 c6,gF s= [c0,c1,c2,c3,c4,c5,c6])∧TVleL (gF s) (aZ s).cells∧∀f g,av f g (gF s)=gF s:=by
 cases s with
 | nil=>exact ⟨⟨_,_,_,_,_,_,_,rfl⟩,⟨.nil 2, .refl _, .nil 1, .refl _, .refl _, .refl _, .nil 2,trivial⟩,fun _ _=>rfl⟩
 | cons c l=>exact ⟨⟨_,_,_,_,_,_,_,rfl⟩,⟨.refl _, .refl _, .refl _, .refl _, .refl _, .refl _, .refl _,trivial⟩,fun f g=>dm _ f g⟩
theorem Ee (s:List Ch) (c:Ch):gF (s++ [c])=(aZ (s++ [c])).cells:=by cases s<;>rfl
theorem B1 {s:List Ch} {c:Ch} {b:AtV} (hne:s≠ []) (hs:∀d∈s,d.2=(b,false)) (hc:c.2.2=false) (hb:b≠c.2.1):(bC (aZ s) c).2=false:=by
 cases s with
 | nil=>exact absurd rfl hne
 | cons d t=>
  have h1:=hs d List.mem_cons_self
  obtain ⟨q,e,k⟩:=d
  cases h1
  unfold bC aZ
  simp [hc,hb]
end
section
open Go.RowKit Go.Deep Go.WideShapes Go.ChangeAt
set_option maxRecDepth 100000

theorem dU:RowI Tryz.prog 27 38 7:=⟨Tryz.underlying27,⟨(Tryz.prog.info? 38).getD default,((Tryz.prog.info? 38).getD default).zero.getD default,by kernel_rfl,by kernel_rfl,Nat.le_of_ble_eq_true (by kernel_rfl),by kernel_rfl,by kernel_rfl⟩,by omega⟩
theorem pf:Tryz.prog.underlying 3=some (.int .i64):=by kernel_rfl
structure yb (l:List Ch):Prop where
 few:l.length≤60
 at' :∀c∈l,c.2.1.p.length≤9223372036854775807∧gg c.1.1 c.1.2
 gone:∀c∈l,c.2.2=true→c.2=(bm,true)
structure B3 (l:List Ch) (f:Nat) (d:Ch):Prop where
 at' :l[f]?=some d
 kind:d.2.2=l.any fun c=>c.2.2
 before:∀i e,i<f→l[i]?=some e→e.2.2=false
 zero:(l.any fun c=>c.2.2)=false→f=0
theorem GT:∀(l:List Ch),l≠ []→∃f d,B3 l f d
 | [],h=>absurd rfl h
 | c::l,_=>by
  cases hg:c.2.2 with
  | true=>exact ⟨0,c,⟨rfl,by simp [hg],fun _ _ h=>absurd h (Nat.not_lt_zero _),fun _=>rfl⟩⟩
  | false=>
   cases ha:l.any fun c=>c.2.2 with
   | false=>exact ⟨0,c,⟨rfl,by simp only [List.any_cons,ha,Bool.or_false],fun _ _ h=>absurd h (Nat.not_lt_zero _),fun _=>rfl⟩⟩
   | true=>
    obtain ⟨f,d,h1,h2,h3,h4⟩:=GT l fun h=>by rw [h] at ha;cases ha
    refine ⟨f+1,d,⟨by simpa using h1,by rw [h2,List.any_cons,hg,Bool.false_or],fun i e hi he=> ?_,fun h=> ?_⟩⟩
    ·cases i with
     | zero=>simp at he;subst he;exact hg
     | succ i=>exact h3 i e (by omega) (by simpa using he)
    ·rw [List.any_cons,hg,Bool.false_or,ha] at h;cases h
theorem MO (l u:Bs) (f j:Int) (h k:Nat→Option Nat):av h k (aj 120 nw (iM l u f j))=aj 120 nw (av h k (iM l u f j)):=by kernel_rfl
theorem Jo {l:List Ch} {us:List UpV} {f:Nat} {d:Ch} (hl:l.length≤60) (hf:B3 l f d) (K:KX) (hK:∀jj:Int,K .normal (aj 120 nw (iM (l.map ag) (us.map UpV.cells) f jj)) (dB (us.map UpV.cells).length) []):
    VWx Tryz.prog ae none 0 (am Tryz.prog cG 2) (aj 120 nw (iM (l.map ag) (us.map UpV.cells) 0 0)) (dB (us.map UpV.cells).length) [] K:=by
  have hlen:=bL l
  obtain ⟨h1,h2,h3,h4⟩:=hf
  have hfl:=(List.getElem?_eq_some_iff.1 h1).1
  refine VWx.keepX 0 1 (Nat.le_refl _) (Nat.le_refl _) ?_
  refine bK (f:=cG) (id:=2) (by kernel_rfl) 120 nw (fun j:Nat=>l.length-j) (fun j:Nat=>iM (l.map ag) (us.map UpV.cells) 0 (j:Int)) (fun _=>dB (us.map UpV.cells).length) (fun j=>j≤l.length∧∀i e,i<j→l[i]?=some e→e.2.2=false) 0 1 (fun _ _=>⟨Nat.le_refl _,Nat.le_refl _⟩)
    (fun e vs T=>e= .normal∧(∃jj:Int,vs=iM (l.map ag) (us.map UpV.cells) f jj)∧T.keep 0 1=dB (us.map UpV.cells).length) (fun j ⟨hj,hb⟩=> ?_) 0 ⟨Nat.zero_le _,fun _ _ h=>absurd h (Nat.not_lt_zero _)⟩ _ ?_
  rotate_left
  · rintro e vs T ⟨rfl,⟨jj,rfl⟩,hT⟩
    refine ⟨rfl, ?_⟩
    rw [MO,hT]
    have:av (au 0) (au 1) (iM (l.map ag) (us.map UpV.cells) f jj)=iM (l.map ag) (us.map UpV.cells) f jj:=by
      simp only [iM,av,TV.ren,aP,bH,Tok.ren];rfl
    rw [this]
    exact hK jj
  by_cases hlt:j<l.length
  · have hr:=List.getElem?_eq_getElem hlt
    generalize l[j]=c at hr
    refine aI ac aa ai ah (zN (l.map ag) (us.map UpV.cells) c.1.1 c.1.2 c.2.1 c.2.2 j _) ?_
    refine aN (decide_eq_true (by rw [hlen];omega)) ⟨dt 21 23 rfl hr,aF (fun hg=> ?_) (fun hg=> ?_)⟩
    · have he:j=f:=by
        rcases Nat.lt_trichotomy j f with h | h | h
        · have:=h3 j c h hr;rw [hg] at this;cases this
        · exact h
        · have h5:=hb f d h h1
          rw [h5] at h2
          have:=h4 h2.symm
          have h6:=List.any_eq_false.1 h2.symm c (List.mem_of_getElem? hr)
          exact absurd hg h6
      subst he
      exact ⟨rfl,rfl,rfl,⟨_,rfl⟩,rfl⟩
    · rw [cf (by omega)]
      refine ⟨rfl,rfl,j+1,⟨hlt,fun i e hi he=> ?_⟩,by show l.length-(j+1)<l.length-j;omega, .inr ⟨rfl, ?_⟩⟩
      · rcases Nat.lt_or_ge i j with h | h
        · exact hb i e h he
        · obtain rfl:i=j:=by omega
          rw [hr] at he;injection he with he;subst he;exact hg
      · simp only [iM,av,TV.ren,aP,bH,Tok.ren];rfl
  · obtain rfl:j=l.length:=by omega
    refine aI ac aa ai ah (zN (l.map ag) (us.map UpV.cells) 0 0 bm true l.length _) (aH (decide_eq_false (by rw [hlen];omega)) ?_)
    have hd:=hb f d hfl h1
    rw [hd] at h2
    have:=h4 h2.symm
    subst this
    exact ⟨rfl,rfl,rfl,⟨_,rfl⟩,rfl⟩
theorem F1 {l:List Ch} (h:yb l) {m:List Ch} (hm:∀c∈m,c∈l∧aC l c=true):Like m:=by
 cases ha:l.any fun c=>c.2.2 with
 | true=>exact .inl fun c hc=>h.gone c (hm c hc).1 (by have:=(hm c hc).2;rw [ta ha] at this;exact this)
 | false=>exact .inr ⟨_,fun c hc=>by
   have h1:=(hm c hc).2
   rw [mz ha] at h1
   have h2:=List.any_eq_false.1 ha c (hm c hc).1
   exact Prod.ext (of_decide_eq_true h1) (by simpa using h2)⟩
theorem Jp {l:List Ch} {us:List UpV} {f:Nat} {d:Ch} (h:yb l) (hul:us.length≤60) (hf:B3 l f d) (K:KX)
    (hK:K .normal (aj 120 fO (dQ (l.map ag) (us.map UpV.cells) ((l.filter fun c=> !aC l c).map ag) f ((l.map ag).length:Nat))) (eU (gF (l.filter (aC l))) (us.map UpV.cells).length ((l.filter fun c=> !aC l c).map ag).length) []):
    VWx Tryz.prog ae none 0 (am Tryz.prog cG 4) (aj 120 fO (dQ (l.map ag) (us.map UpV.cells) [] f 0)) (eU FX (us.map UpV.cells).length 0) [] K:=by
  have hlen:=bL l
  have hfew:=h.few
  obtain ⟨h1,h2,h3,h4⟩:=hf
  have hfl:=(List.getElem?_eq_some_iff.1 h1).1
  refine bK (f:=cG) (id:=4) (by kernel_rfl) 120 fO (fun j:Nat=>l.length-j) (fun j:Nat=>dQ (l.map ag) (us.map UpV.cells) (((l.take j).filter fun c=> !aC l c).map ag) f (j:Int)) (fun j=>eU (gF ((l.take j).filter (aC l))) (us.map UpV.cells).length (((l.take j).filter fun c=> !aC l c).map ag).length) (fun j=>j≤l.length) 1 2 (fun _ _=>⟨Nat.le_refl _,Nat.le_refl _⟩)
    (fun e vs T=>e= .normal∧vs=dQ (l.map ag) (us.map UpV.cells) ((l.filter fun c=> !aC l c).map ag) f ((l.map ag).length:Nat)∧T=eU (gF (l.filter (aC l))) (us.map UpV.cells).length ((l.filter fun c=> !aC l c).map ag).length) (fun j hj=> ?_) 0 (Nat.zero_le _) K ?_
  rotate_left
  · rintro e vs T ⟨rfl,rfl,rfl⟩
    exact hK
  have hS:∀w v n ok sm,aQ Tryz.prog ae (aw [(lS,o6 w v n ok),(gi,il sm)]):=fun w v n ok sm=>aE fun p hp=>by
    rcases List.mem_cons.1 hp with rfl | hp;exact Jl _ _ _ _
    obtain rfl:=List.mem_singleton.1 hp;exact my _
  obtain ⟨⟨c0,c1,c2,c3,c4,c5,c6,hcel⟩,hle,hren⟩:=Jn ((l.take j).filter (aC l))
  have hull:(us.map UpV.cells).length=us.length:=List.length_map _
  by_cases hlt:j<l.length
  · have hr:=List.getElem?_eq_getElem hlt
    have hm:l[j]∈l:=List.getElem_mem hlt
    generalize l[j]=c at hr hm
    have hts:=bZ hr
    have hsm:∀x∈(l.take j).filter (aC l),x∈l∧aC l x=true:=fun x hx=>⟨List.mem_of_mem_take (List.mem_filter.1 hx).1,(List.mem_filter.1 hx).2⟩
    have hsl:((l.take j).filter (aC l)).length≤60:=Nat.le_trans (List.length_filter_le _ _) (by rw [List.length_take];omega)
    obtain ⟨u1,u2,u3⟩:=MN hsl fun x hx=>h.at' x (hsm x hx).1
    have hrl:(((l.take j).filter fun c=> !aC l c).map ag).length≤60:=by
      rw [List.length_map];exact Nat.le_trans (List.length_filter_le _ _) (by rw [List.length_take];omega)
    have lk:∀ok,(bC (aZ ((l.take j).filter (aC l))) c).2=ok→nm [c0,c1,c2,c3,c4,c5,c6] (ag c) (an (bC (aZ ((l.take j).filter (aC l))) c).1.w) (bC (aZ ((l.take j).filter (aC l))) c).1.a (an (bC (aZ ((l.take j).filter (aC l))) c).1.n) ok:=fun ok e=>⟨aZ ((l.take j).filter (aC l)),c,hcel▸hle,rfl,⟨u1,u2,u3⟩,h.at' c hm,rfl,rfl,rfl,e.symm⟩
    --chosen
    have chosen:aC l c=true→(bC (aZ ((l.take j).filter (aC l))) c).2=true∧∀o,m4 120 4 (fun j:Nat=>l.length-j) (fun j:Nat=>dQ (l.map ag) (us.map UpV.cells) (((l.take j).filter fun c=> !aC l c).map ag) f (j:Int)) (fun j=>eU (gF ((l.take j).filter (aC l))) (us.map UpV.cells).length (((l.take j).filter fun c=> !aC l c).map ag).length) (fun j=>j≤l.length) 1 2 j (fun e vs T=>e= .normal∧vs=dQ (l.map ag) (us.map UpV.cells) ((l.filter fun c=> !aC l c).map ag) f ((l.map ag).length:Nat)∧T=eU (gF (l.filter (aC l))) (us.map UpV.cells).length ((l.filter fun c=> !aC l c).map ag).length)
        .normal (dQ (l.map ag) (us.map UpV.cells) (((l.take j).filter fun c=> !aC l c).map ag) f (IntKind.wrap .i64 ((j:Int)+1))) ⟨.cells (bC (aZ ((l.take j).filter (aC l))) c).1.cells::o, [((us.map UpV.cells).length,7,true),((((l.take j).filter fun c=> !aC l c).map ag).length,8,true)]⟩ [] 120:=fun hs=>by
      have hlk:=F0 (s:=(l.take j).filter (aC l)) (c:=c) (F1 h fun x hx=>by
        rcases List.mem_append.1 hx with hx | hx
        · exact hsm x hx
        · obtain rfl:=List.mem_singleton.1 hx;exact ⟨hm,hs⟩)
      have e1:(l.take (j+1)).filter (aC l)=(l.take j).filter (aC l)++ [c]:=by rw [hts,List.filter_append,List.filter_cons_of_pos hs,List.filter_nil]
      have e2:((l.take (j+1)).filter fun c=> !aC l c)=(l.take j).filter fun c=> !aC l c:=by rw [hts,List.filter_append,List.filter_cons_of_neg (by rw [hs];decide),List.filter_nil,List.append_nil]
      rw [hlk]
      refine ⟨rfl,fun o=> ?_⟩
      rw [cf (by omega)]
      refine ⟨rfl,rfl,j+1,hlt,by show l.length-(j+1)<l.length-j;omega, .inr ⟨?_, ?_⟩⟩
      · show (⟨[.cells (av _ _ (aZ ((l.take j).filter (aC l)++ [c])).cells)],_⟩:VT)=eU _ _ _
        rw [dm,e1,e2,Ee];rfl
      · show _=dQ _ _ _ _ _
        rw [e2]
        simp only [dQ,av,TV.ren,aP,bH,Tok.ren];rfl
    --left for later
    have later:aC l c=false→∀o,m4 120 4 (fun j:Nat=>l.length-j) (fun j:Nat=>dQ (l.map ag) (us.map UpV.cells) (((l.take j).filter fun c=> !aC l c).map ag) f (j:Int)) (fun j=>eU (gF ((l.take j).filter (aC l))) (us.map UpV.cells).length (((l.take j).filter fun c=> !aC l c).map ag).length) (fun j=>j≤l.length) 1 2 j (fun e vs T=>e= .normal∧vs=dQ (l.map ag) (us.map UpV.cells) ((l.filter fun c=> !aC l c).map ag) f ((l.map ag).length:Nat)∧T=eU (gF (l.filter (aC l))) (us.map UpV.cells).length ((l.filter fun c=> !aC l c).map ag).length)
        .normal [.vec 8 (l.map ag) .none, .vec 7 (us.map UpV.cells) (.tail 0 (us.map UpV.cells).length), .val (.int .i64 (f:Int)), .ptr 0 0, .vec 8 (((l.take j).filter fun c=> !aC l c).map ag++ [ag c]) (.tail 1 ((((l.take j).filter fun c=> !aC l c).map ag).length+1)), .val (.bool false), .vec 8 (l.map ag) .none, .val (.int .i64 ((l.map ag).length:Int)), .val (.int .i64 (IntKind.wrap .i64 ((j:Int)+1)))] ⟨.cells [c0,c1,c2,c3,c4,c5,c6]::o, [((us.map UpV.cells).length,7,true),((((l.take j).filter fun c=> !aC l c).map ag).length+1,8,true)]⟩ [] 120:=fun hs o=>by
      have e1:(l.take (j+1)).filter (aC l)=(l.take j).filter (aC l):=by rw [hts,List.filter_append,List.filter_cons_of_neg (by rw [hs];decide),List.filter_nil,List.append_nil]
      have e2:((l.take (j+1)).filter fun c=> !aC l c).map ag=((l.take j).filter fun c=> !aC l c).map ag++ [ag c]:=by rw [hts,List.filter_append,List.filter_cons_of_pos (by rw [hs];rfl),List.filter_nil,List.map_append];rfl
      have e3:(((l.take j).filter fun c=> !aC l c).map ag).length+1=(((l.take j).filter fun c=> !aC l c).map ag++ [ag c]).length:=by rw [List.length_append];rfl
      rw [cf (by omega),e3]
      refine ⟨rfl,rfl,j+1,hlt,by show l.length-(j+1)<l.length-j;omega, .inr ⟨?_, ?_⟩⟩
      · show (⟨[.cells (av _ _ [c0,c1,c2,c3,c4,c5,c6])],_⟩:VT)=eU _ _ _
        rw [←hcel,hren,e1,e2];rfl
      · show _=dQ _ _ _ _ _
        rw [←e2]
        simp only [dQ,av,TV.ren,aP,bH,Tok.ren];rfl
    have app:∀o s x,Nat.beq s x=false→aB Tryz.prog ae 0 ⟨o, [((us.map UpV.cells).length,7,true),((((l.take j).filter fun c=> !aC l c).map ag).length,8,true)]⟩ (.call ⟨.builtin .append, #[.tmp s, .tmp x], #[29,29]⟩) [(s, .vec 8 (((l.take j).filter fun c=> !aC l c).map ag) (.tail 1 (((l.take j).filter fun c=> !aC l c).map ag).length)),(x, .vec 8 [ag c] .full)] (.vec 8 (((l.take j).filter fun c=> !aC l c).map ag++ [ag c]) (.tail 1 ((((l.take j).filter fun c=> !aC l c).map ag).length+1))) ⟨o, [((us.map UpV.cells).length,7,true),((((l.take j).filter fun c=> !aC l c).map ag).length+1,8,true)]⟩:=fun o s x hne=>
      dI.appE (T:=⟨o, [(_,7,true),(_,8,true)]⟩) (k:=1) (es2:= [ag c]) rfl hne (by simp only [List.length_cons,List.length_nil];omega)
    have hds:∀sm,decide (c.2.1=d.2.1)=sm→jF c.2.1.cells d.2.1.cells sm:=fun sm e=>⟨c.2.1,d.2.1,AtV.le_refl _,AtV.le_refl _,(h.at' c hm).1,e.symm⟩
    have hcj:decide ((j:Int)<((l.map ag).length:Int))=true:=decide_eq_true (by rw [hlen];omega)
    show VWx Tryz.prog ae none 0 (bd Tryz.prog cG 4) (aj 120 fO (dQ (l.map ag) (us.map UpV.cells) (((l.take j).filter fun c=> !aC l c).map ag) f (j:Int))) (eU (gF ((l.take j).filter (aC l))) (us.map UpV.cells).length (((l.take j).filter fun c=> !aC l c).map ag).length) [] _
    rw [hcel]
    obtain ⟨cp,ca,cg⟩:=c
    obtain ⟨dp,da,dg⟩:=d
    cases ha:l.any fun c=>c.2.2 with
    | true=>
      rw [ha] at h2
      cases h2
      have hsel:=ta ha (cp,ca,cg)
      cases cg with
      | true=>
        have hjf:¬j<f:=fun hx=>by have:=h3 j _ hx hr;cases this
        obtain ⟨k1,k2⟩:=chosen hsel
        refine aI ac aa (hS _ _ _ true true) ah (zO (l.map ag) (us.map UpV.cells) (((l.take j).filter fun c=> !aC l c).map ag) [] (an (bC (aZ ((l.take j).filter (aC l))) (cp,ca,true)).1.w) (an (bC (aZ ((l.take j).filter (aC l))) (cp,ca,true)).1.n) c0 c1 c2 c3 c4 c5 c6 cp.1 cp.2 dp.1 dp.2 ca da (bC (aZ ((l.take j).filter (aC l))) (cp,ca,true)).1.a true f j 0 [] _) ?_
        exact aN hcj ⟨dt 32 34 rfl hr,lk true k1,jf rfl pf (decide_eq_false hjf),dt 51 52 rfl h1,k2 _⟩
      | false=>
        by_cases hjf:j<f
        · refine aI ac aa (hS _ _ _ _ (decide (ca=da))) ah (IY (l.map ag) (us.map UpV.cells) (((l.take j).filter fun c=> !aC l c).map ag) (((l.take j).filter fun c=> !aC l c).map ag++ [ag (cp,ca,false)]) (an (bC (aZ ((l.take j).filter (aC l))) (cp,ca,false)).1.w) (an (bC (aZ ((l.take j).filter (aC l))) (cp,ca,false)).1.n) c0 c1 c2 c3 c4 c5 c6 cp.1 cp.2 dp.1 dp.2 ca da (bC (aZ ((l.take j).filter (aC l))) (cp,ca,false)).1.a (bC (aZ ((l.take j).filter (aC l))) (cp,ca,false)).2 (decide (ca=da)) f j ((((l.take j).filter fun c=> !aC l c).map ag).length+1) [((us.map UpV.cells).length,7,true),((((l.take j).filter fun c=> !aC l c).map ag).length+1,8,true)] _) ?_
          exact aN hcj ⟨dt 32 34 rfl hr,lk _ rfl,jf rfl pf (decide_eq_true hjf),dt 81 82 rfl h1,hds _ rfl,pc rfl pf (decide_eq_false (by omega)),app _ _ _ rfl,later hsel _⟩
        · refine aI ac aa (hS _ _ _ _ (decide (ca=da))) ah (IZ (l.map ag) (us.map UpV.cells) (((l.take j).filter fun c=> !aC l c).map ag) (((l.take j).filter fun c=> !aC l c).map ag++ [ag (cp,ca,false)]) (an (bC (aZ ((l.take j).filter (aC l))) (cp,ca,false)).1.w) (an (bC (aZ ((l.take j).filter (aC l))) (cp,ca,false)).1.n) c0 c1 c2 c3 c4 c5 c6 cp.1 cp.2 dp.1 dp.2 ca da (bC (aZ ((l.take j).filter (aC l))) (cp,ca,false)).1.a (bC (aZ ((l.take j).filter (aC l))) (cp,ca,false)).2 (decide (ca=da)) f j ((((l.take j).filter fun c=> !aC l c).map ag).length+1) [((us.map UpV.cells).length,7,true),((((l.take j).filter fun c=> !aC l c).map ag).length+1,8,true)] _) ?_
          exact aN hcj ⟨dt 32 34 rfl hr,lk _ rfl,jf rfl pf (decide_eq_false hjf),dt 51 52 rfl h1,dt 81 82 rfl h1,hds _ rfl,pc rfl pf (decide_eq_true (by omega)),dt 97 98 rfl h1,app _ _ _ rfl,later hsel _⟩
    | false=>
      rw [ha] at h2
      cases h2
      obtain rfl:=h4 ha
      have hcg:cg=false:=by have:=List.any_eq_false.1 ha _ hm;simpa using this
      subst hcg
      have hsel:=mz ha (cp,ca,false)
      have hhd:(l.headD ((0,0),bm,false)).2.1=da:=by
        cases l with
        | nil=>cases hfl
        | cons e t=>simp at h1;subst h1;rfl
      rw [hhd] at hsel
      by_cases hs:ca=da
      · rw [decide_eq_true hs] at hsel
        obtain ⟨k1,k2⟩:=chosen hsel
        refine aI ac aa (hS _ _ _ true true) ah (IX (l.map ag) (us.map UpV.cells) (((l.take j).filter fun c=> !aC l c).map ag) [] (an (bC (aZ ((l.take j).filter (aC l))) (cp,ca,false)).1.w) (an (bC (aZ ((l.take j).filter (aC l))) (cp,ca,false)).1.n) c0 c1 c2 c3 c4 c5 c6 cp.1 cp.2 dp.1 dp.2 ca da (bC (aZ ((l.take j).filter (aC l))) (cp,ca,false)).1.a true 0 j 0 [] _) ?_
        exact aN hcj ⟨dt 32 34 rfl hr,lk true k1,jf rfl pf (decide_eq_false (Nat.not_lt_zero _)),dt 51 52 rfl h1,k2 _⟩
      · rw [decide_eq_false hs] at hsel
        have hwr:(bC (aZ ((l.take j).filter (aC l))) (cp,ca,false)).2=false:=by
          refine B1 (b:=da) (fun he=> ?_) (fun x hx=> ?_) rfl fun he=>hs he.symm
          · have hj0:0<j:=by
              rcases Nat.eq_zero_or_pos j with h0 | h0
              · subst h0
                rw [hr] at h1;injection h1 with h1
                exact absurd (congrArg (fun c:Ch=>c.2.1) h1) hs
              · exact h0
            have hd0:((dp,da,false):Ch)∈l.take j:=List.mem_of_getElem? (by rw [List.getElem?_take_of_lt hj0];exact h1)
            have hsd:aC l (dp,da,false)=true:=by rw [mz ha,hhd];exact decide_eq_true rfl
            have:=List.mem_filter.2 ⟨hd0,hsd⟩
            rw [he] at this;cases this
          · obtain ⟨h5,h6⟩:=hsm x hx
            rw [mz ha,hhd] at h6
            have h7:=List.any_eq_false.1 ha x h5
            exact Prod.ext (of_decide_eq_true h6) (by simpa using h7)
        refine aI ac aa (hS _ _ _ false false) ah (I0 (l.map ag) (us.map UpV.cells) (((l.take j).filter fun c=> !aC l c).map ag) (((l.take j).filter fun c=> !aC l c).map ag++ [ag (cp,ca,false)]) (an (bC (aZ ((l.take j).filter (aC l))) (cp,ca,false)).1.w) (an (bC (aZ ((l.take j).filter (aC l))) (cp,ca,false)).1.n) c0 c1 c2 c3 c4 c5 c6 cp.1 cp.2 dp.1 dp.2 ca da (bC (aZ ((l.take j).filter (aC l))) (cp,ca,false)).1.a 0 j ((((l.take j).filter fun c=> !aC l c).map ag).length+1) [((us.map UpV.cells).length,7,true),((((l.take j).filter fun c=> !aC l c).map ag).length+1,8,true)] _) ?_
        exact aN hcj ⟨dt 32 34 rfl hr,lk _ hwr,jf rfl pf (decide_eq_false (Nat.not_lt_zero _)),dt 51 52 rfl h1,dt 81 82 rfl h1,hds _ (decide_eq_false hs),pc rfl pf (decide_eq_true (Nat.zero_le _)),dt 97 98 rfl h1,app _ _ _ rfl,later hsel _⟩
  · obtain rfl:j=l.length:=by omega
    show VWx Tryz.prog ae none 0 (bd Tryz.prog cG 4) (aj 120 fO (dQ (l.map ag) (us.map UpV.cells) (((l.take l.length).filter fun c=> !aC l c).map ag) f (l.length:Int))) (eU (gF ((l.take l.length).filter (aC l))) (us.map UpV.cells).length (((l.take l.length).filter fun c=> !aC l c).map ag).length) [] _
    rw [hcel]
    refine aI ac aa (hS [] bm [] true true) ah (zO (l.map ag) (us.map UpV.cells) (((l.take l.length).filter fun c=> !aC l c).map ag) [] [] [] c0 c1 c2 c3 c4 c5 c6 0 0 0 0 bm bm bm true f l.length 0 [] _) (aH (decide_eq_false (by rw [hlen];omega)) ?_)
    rw [List.take_length] at hcel ⊢
    exact ⟨rfl,rfl,rfl,by simp only [dQ,hlen],by rw [hcel];rfl⟩
end
section
open Go.RowKit Go.Deep Go.WideShapes Go.ChangeAt
set_option maxRecDepth 100000

theorem B4 (l:List Ch) (p:Ch→Bool):(l.filter p).length+(l.filter fun c=> !p c).length=l.length:=by
 induction l with
 | nil=>rfl
 | cons a m ih=>rw [List.filter_cons,List.filter_cons];cases p a<;>simp only [Bool.not_true,Bool.not_false,if_true,List.length_cons]<;>simp<;>omega
theorem MP {l:List Ch} {f:Nat} {d:Ch} (h:B3 l f d):aC l d=true:=by
 cases ha:l.any fun c=>c.2.2 with
 | true=>rw [ta ha,h.kind,ha]
 | false=>
  rw [mz ha]
  have h1:=h.at'
  rw [h.zero ha] at h1
  cases l with
  | nil=>cases h1
  | cons e t=>simp at h1;subst h1;exact decide_eq_true rfl
def GU (c d:Code):Nat→Option (br × Code):=bv [(2,fun _ _ _ _ _ _=>False,c),(4,fun _ _ _ _ _ _=>False,d)]
theorem MQ (c d:Code):eP Tryz.prog ae (GU c d):=aL fun p hp=>by
 rcases List.mem_cons.1 hp with rfl | hp
 ·exact fun _ _ _ _ _ _ h=>h.elim
 ·obtain rfl:=List.mem_singleton.1 hp;exact fun _ _ _ _ _ _ h=>h.elim
theorem Jq (u:Bs) (Q:Exit→List TV→VT→List Nat→Nat→Prop):vx Tryz.prog ae aR (aA [(999998, .dead,none)]) 300 (GU (am Tryz.prog cG 2) (am Tryz.prog cG 4)) none 0 (bd Tryz.prog cG 0) (aj 120 nu (nv [] u)) (dB u.length) [] (bA nu Q)=
Q (.exit 0) [(.vec 8 [] .none),(.vec 7 (u) (.tail 0 (List.length u)))] ⟨[], [((List.length u),(7,true))]⟩ [] 120:=by kernel_rfl
theorem Jr {cs:List Ch} {l0:List Ch} (h0:yb l0) (hp:pR l0=bQ cs) (K:KX) (hK:K .normal (aj 120 nu (nv [] ((bQ cs).map UpV.cells))) (dB ((bQ cs).map UpV.cells).length) []):
    VWx Tryz.prog ae none 0 (am Tryz.prog cG 0) (aj 120 nu (nv (l0.map ag) [])) (dB 0) [] K:=by
  refine bK (f:=cG) (id:=0) (by kernel_rfl) 120 nu (fun s:List Ch × List UpV=>s.1.length) (fun s=>nv (s.1.map ag) (s.2.map UpV.cells)) (fun s=>dB (s.2.map UpV.cells).length) (fun s=>yb s.1∧s.2++pR s.1=bQ cs∧s.2.length+s.1.length≤60) 0 1 (fun _ _=>⟨Nat.le_refl _,Nat.le_refl _⟩)
    (fun e vs T=>e= .normal∧vs=nv [] ((bQ cs).map UpV.cells)∧T=dB ((bQ cs).map UpV.cells).length) (fun s ⟨hl,he,hn⟩=> ?_) (l0, []) ⟨h0,hp,by have:=h0.few;simpa using this⟩ K ?_
  rotate_left
  · rintro e vs T ⟨rfl,rfl,rfl⟩
    exact hK
  obtain ⟨l,us⟩:=s
  simp only at hl he hn
  have hlen:=bL l
  have hfew:=hl.few
  by_cases hne:l= []
  · subst hne
    have e1:us=bQ cs:=by rw [←he];exact (List.append_nil us).symm
    subst e1
    refine aI ac aa ai (MQ _ _) (Jq ((bQ cs).map UpV.cells) _) ?_
    exact ⟨rfl,rfl,rfl,rfl,rfl⟩
  · obtain ⟨f,d,hf⟩:=GT l hne
    have hstep:=BZ hne hfew
    have hsd:d∈l.filter (aC l):=List.mem_filter.2 ⟨List.mem_of_getElem? hf.at',MP hf⟩
    have hft:=B4 l (aC l)
    have hpos:=List.length_pos_of_mem hsd
    have hcell:gF (l.filter (aC l))=(aZ (l.filter (aC l))).cells:=by
      cases hq:l.filter (aC l) with
      | nil=>rw [hq] at hsd;cases hsd
      | cons a t=>rfl
    have hull:(us.map UpV.cells).length=us.length:=List.length_map _
    have hLs:eP Tryz.prog ae (Mg (l.map ag) (us.map UpV.cells) ((l.filter fun c=> !aC l c).map ag) (an (aZ (l.filter (aC l))).w) (aZ (l.filter (aC l))).a (an (aZ (l.filter (aC l))).n) f (am Tryz.prog cG 2) (am Tryz.prog cG 4)):=aL fun p hp=>by
      rcases List.mem_cons.1 hp with rfl | hp
      · exact aS (Jo hfew hf)
      · obtain rfl:=List.mem_singleton.1 hp
        refine aS fun K hK=>Jp hl (by omega) hf K ?_
        rw [hcell];exact hK
    refine aI ac aa ai hLs (IW (l.map ag) (us.map UpV.cells) (us.map UpV.cells++ [(aZ (l.filter (aC l))).cells]) ((l.filter fun c=> !aC l c).map ag) (an (aZ (l.filter (aC l))).w) (an (aZ (l.filter (aC l))).n) (aZ (l.filter (aC l))).a f (us.map UpV.cells++ [(aZ (l.filter (aC l))).cells]).length [((us.map UpV.cells++ [(aZ (l.filter (aC l))).cells]).length,7,true),(((l.filter fun c=> !aC l c).map ag).length,8,true)] _) ?_
    refine aN (decide_eq_true (by rw [hlen];have:=List.length_pos_iff.2 hne;omega)) ⟨rfl,⟨rfl,rfl,rfl,trivial,rfl,rfl,rfl⟩,fun jj=>⟨rfl,⟨rfl,rfl,rfl,⟨rfl,trivial⟩,rfl,rfl,rfl⟩,dU.appL (T:=⟨[_], [(_,7,true),(_,8,true)]⟩) (k:=0) (es2:= [_]) rfl rfl (by simp only [List.length_cons,List.length_nil];omega), ?_⟩⟩
    have e2:us.map UpV.cells++ [(aZ (l.filter (aC l))).cells]=(us++ [aZ (l.filter (aC l))]).map UpV.cells:=by rw [List.map_append];rfl
    rw [e2]
    refine ⟨rfl,rfl,(l.filter fun c=> !aC l c,us++ [aZ (l.filter (aC l))]),⟨⟨?_, ?_, ?_⟩, ?_, ?_⟩, ?_, .inr ⟨rfl, ?_⟩⟩
    · exact Nat.le_trans (List.length_filter_le _ _) hfew
    · exact fun c hc=>hl.at' c (List.mem_filter.1 hc).1
    · exact fun c hc=>hl.gone c (List.mem_filter.1 hc).1
    · rw [←he,hstep];simp
    · simp only [List.length_append,List.length_cons,List.length_nil];omega
    · show (l.filter fun c=> !aC l c).length<l.length;omega
    · simp only [nv,av,TV.ren,aP,bH,Tok.ren];rfl
theorem MR {cs:List Ch} (hc:CdOk cs):VCx Tryz.prog ae 0 cG [.vec 8 (cs.map ag) .none] ⟨[], []⟩ fun x T' =>x= .vec 7 ((bQ cs).map UpV.cells) .none∧T' =⟨[], []⟩:=by
 have hS:aQ Tryz.prog ae (aw [(en,rq ((bt cs).map ag))]):=aE fun p hp=>by obtain rfl:=List.mem_singleton.1 hp;exact Ae _
 have hm:∀c∈bt cs,c∈cs:=fun c h=>FR (vg.1 h)
 have hlf:yb (bt cs):=by
  refine ⟨?_,fun c h=>⟨(hc.at' c (hm c h)).1.1,(hc.at' c (hm c h)).2⟩,fun c h hg=> ?_⟩
  ·have h1:=pQ cs cs.length
   rw [Aa] at h1
   exact Nat.le_trans h1 hc.few
  ·have h1:=vi (cs:=cs)
   have h2:=vh h
   obtain ⟨p,a,g⟩:=c
   simp only at hg
   subst hg
   unfold cC uX at h2
   have h3:=(Bool.and_eq_true _ _▸h2).2
   exact Prod.ext (of_decide_eq_true h3) rfl
 refine VCx.keepQ 0 0 (Nat.le_refl _) (Nat.le_refl _) (ak ac aa hS (aL fun p hp=> ?_) (Mv (cs.map ag) ((bt cs).map ag) ((bQ cs).map UpV.cells) _) ⟨⟨cs,rfl,hc,rfl⟩,rfl,⟨rfl,rfl,rfl,⟨rfl,trivial⟩,rfl,rfl,rfl⟩,by simp only [TV.ren,bH];rfl,rfl⟩)
 obtain rfl:=List.mem_singleton.1 hp
 exact aS (Jr hlf (rc cs).symm)
theorem Js (u:Bs):∀ro ys T K,xV u ro ys T K→VCx Tryz.prog ae ro cG ys T K:=by
 intro ro ys T K h
 unfold xV at h
 split at h
 ·obtain ⟨⟨cs,rfl,hc,rfl⟩,hk⟩:=h
  refine VCx.argsLe (xs:= [.vec 8 (cs.map ag) .none]) ⟨.vec _ _ _,trivial⟩ ?_
  exact VCx.liftPure ap (MR hc) (by simp only [av,TV.ren,aP,Tok.ren]) (fun _ _=>by simp only [TV.ren,bH,Tok.ren]) hk
 ·exact h.elim
end
section
open Go.RowKit Go.Deep Go.WideShapes Go.ChangeAt
set_option maxRecDepth 100000

def ip (us:List UpV) (j:Nat) (v:List Px) (l:List (Ch × Bool)) (i:Nat):List TV:=o8 (l.map aO) (us.map UpV.cells) j (an v) i
theorem Ag (us:List UpV) (j:Nat) (v:List Px) (l:List (Ch × Bool)) (i:Nat):av (au 1) (au 1) (ip us j v l i)=ip us j v l i:=by
 simp only [ip,o8,av,TV.ren,iK,bH,cd,Tok.ren];rfl
theorem Ah {objs:List VO} {tl:eo} {l:List (Ch × Bool)} {s:Ch × Bool} (y x:Nat) (hk:tl[0]?=some ((l.map aO).length,8,true)) (hne:Nat.beq y x=false) (hl:l.length≤10000000):aB Tryz.prog ae 0 ⟨objs,tl⟩ (.call ⟨.builtin .append, #[.tmp y, .tmp x], #[29,29]⟩) [(y, .vec 8 (l.map aO) (.tail 0 (l.map aO).length)),(x, .vec 8 [aO s] .full)] (.vec 8 ((l++ [s]).map aO) (.tail 0 ((l++ [s]).map aO).length)) ⟨objs,tl.set 0 (((l++ [s]).map aO).length,8,true)⟩:=by
 have e:(l++ [s]).map aO=l.map aO++ [aO s]:=List.map_append
 have e2:((l++ [s]).map aO).length=(l.map aO).length+ [aO s].length:=by rw [e,List.length_append]
 rw [e2,e]
 exact dI.app (T:=⟨objs,tl⟩) hk hne (by simp only [List.length_map,List.length_cons,List.length_nil];omega)
theorem Ai (u:UpV) (n:Nat) (o:List VO):VT.keep ⟨.cells u.cells::o, [(n,8,true)]⟩ 1 1=dP (an u.w) u.a (an u.n) n:=by
 have:=dm u (au 1) (au 1)
 simp only [VT.keep,List.take_succ_cons,List.take_zero,List.map_cons,List.map_nil,VO.ren,this]
 rfl
theorem yc (us:List UpV) (u:UpV) (j:Nat) (l0:List (Ch × Bool)) (hl:l0.length+u.w.length≤1000000) (K:KX) (hK:K .normal (aj 46 lV (ip us j u.w (l0++bJ u.w) u.w.length)) (dP (an u.w) u.a (an u.n) ((l0++bJ u.w).map aO).length) []):
    VWx Tryz.prog ae none 0 (am Tryz.prog dn 2) (aj 46 lV (ip us j u.w l0 0)) (dP (an u.w) u.a (an u.n) (l0.map aO).length) [] K:=by
  have e0:l0++bJ (u.w.take 0)=l0:=by simp [bJ]
  suffices h:VWx Tryz.prog ae none 0 (am Tryz.prog dn 2) (aj 46 lV (ip us j u.w (l0++bJ (u.w.take 0)) 0)) (dP (an u.w) u.a (an u.n) ((l0++bJ (u.w.take 0)).map aO).length) [] K by
    rw [e0] at h
    exact h
  refine bK (f:=dn) (id:=2) (by kernel_rfl) 46 lV (fun i:Nat=>u.w.length-i) (fun i:Nat=>ip us j u.w (l0++bJ (u.w.take i)) i) (fun i=>dP (an u.w) u.a (an u.n) ((l0++bJ (u.w.take i)).map aO).length) (fun i=>i≤u.w.length) 1 1 (fun j _=>⟨Nat.le_refl _,Nat.le_refl _⟩)
    (fun e vs T=>e= .normal∧vs=ip us j u.w (l0++bJ u.w) u.w.length∧T=dP (an u.w) u.a (an u.n) ((l0++bJ u.w).map aO).length) (fun i hi=> ?_) 0 (Nat.zero_le _) K ?_
  rotate_left
  · rintro e vs T ⟨rfl,rfl,rfl⟩
    exact hK
  have hlen:=bw u.w
  have hln:(l0++bJ (u.w.take i)).length≤l0.length+i:=by rw [List.length_append];unfold bJ;rw [List.length_map,List.length_take];omega
  by_cases hlt:i<u.w.length
  · have hr:=List.getElem?_eq_getElem hlt
    generalize u.w[i]=p at hr
    have e1:l0++bJ (u.w.take (i+1))=(l0++bJ (u.w.take i))++ [((p,bm,true),true)]:=by
      rw [bZ hr,List.append_assoc];unfold bJ;rw [List.map_append];rfl
    show VWx _ _ _ _ _ (aj 46 lV (ip us j u.w (l0++bJ (u.w.take i)) i)) (dP (an u.w) u.a (an u.n) ((l0++bJ (u.w.take i)).map aO).length) _ _
    generalize eA:l0++bJ (u.w.take i)=A at e1 hln
    refine aI ac aa ai ah (zI (A.map aO) ((A++ [((p,bm,true),true)]).map aO) (us.map UpV.cells) (an u.w) (an u.n) (an u.w) u.a p.1 p.2 j i ((A++ [((p,bm,true),true)]).map aO).length [(((A++ [((p,bm,true),true)]).map aO).length,8,true)] _) ?_
    refine aN (decide_eq_true (by rw [hlen];omega)) ⟨vD 17 19 rfl hr, ?_, ?_⟩
    · exact Ah (l:=A) (s:=((p,bm,true),true)) (tl:= [((A.map aO).length,8,true)]) 23 26 rfl rfl (by omega)
    · rw [cf (by omega)]
      refine ⟨rfl,rfl,i+1,hlt,by show u.w.length-(i+1)<u.w.length-i;omega, .inr ⟨?_, ?_⟩⟩
      · show _=dP _ _ _ ((l0++bJ (u.w.take (i+1))).map aO).length
        rw [e1]
        exact Ai u _ _
      · show _=ip us j u.w (l0++bJ (u.w.take (i+1))) (i+1)
        rw [e1]
        exact Ag us j u.w _ (i+1)
  · obtain rfl:i=u.w.length:=by omega
    show VWx _ _ _ _ _ (aj 46 lV (ip us j u.w (l0++bJ (u.w.take u.w.length)) u.w.length)) (dP (an u.w) u.a (an u.n) ((l0++bJ (u.w.take u.w.length)).map aO).length) _ _
    rw [List.take_length]
    refine aI ac aa ai ah (zI ((l0++bJ u.w).map aO) [] (us.map UpV.cells) (an u.w) (an u.n) (an u.w) u.a 0 0 j u.w.length 0 [] _) (aH (decide_eq_false (by rw [hlen];omega)) ?_)
    exact ⟨rfl,rfl,rfl,rfl,rfl⟩
theorem yd (us:List UpV) (u:UpV) (j:Nat) (l0:List (Ch × Bool)) (hl:l0.length+u.n.length≤1000000) (K:KX) (hK:K .normal (aj 46 lW (ip us j u.n (l0++b9 u.a u.n) u.n.length)) (dP (an u.w) u.a (an u.n) ((l0++b9 u.a u.n).map aO).length) []):
    VWx Tryz.prog ae none 0 (am Tryz.prog dn 4) (aj 46 lW (ip us j u.n l0 0)) (dP (an u.w) u.a (an u.n) (l0.map aO).length) [] K:=by
  have e0:l0++b9 u.a (u.n.take 0)=l0:=by simp [b9]
  suffices h:VWx Tryz.prog ae none 0 (am Tryz.prog dn 4) (aj 46 lW (ip us j u.n (l0++b9 u.a (u.n.take 0)) 0)) (dP (an u.w) u.a (an u.n) ((l0++b9 u.a (u.n.take 0)).map aO).length) [] K by
    rw [e0] at h
    exact h
  refine bK (f:=dn) (id:=4) (by kernel_rfl) 46 lW (fun i:Nat=>u.n.length-i) (fun i:Nat=>ip us j u.n (l0++b9 u.a (u.n.take i)) i) (fun i=>dP (an u.w) u.a (an u.n) ((l0++b9 u.a (u.n.take i)).map aO).length) (fun i=>i≤u.n.length) 1 1 (fun j _=>⟨Nat.le_refl _,Nat.le_refl _⟩)
    (fun e vs T=>e= .normal∧vs=ip us j u.n (l0++b9 u.a u.n) u.n.length∧T=dP (an u.w) u.a (an u.n) ((l0++b9 u.a u.n).map aO).length) (fun i hi=> ?_) 0 (Nat.zero_le _) K ?_
  rotate_left
  · rintro e vs T ⟨rfl,rfl,rfl⟩
    exact hK
  have hlen:=bw u.n
  have hln:(l0++b9 u.a (u.n.take i)).length≤l0.length+i:=by rw [List.length_append];unfold b9;rw [List.length_map,List.length_take];omega
  by_cases hlt:i<u.n.length
  · have hr:=List.getElem?_eq_getElem hlt
    generalize u.n[i]=p at hr
    have e1:l0++b9 u.a (u.n.take (i+1))=(l0++b9 u.a (u.n.take i))++ [((p,u.a,false),false)]:=by
      rw [bZ hr,List.append_assoc];unfold b9;rw [List.map_append];rfl
    show VWx _ _ _ _ _ (aj 46 lW (ip us j u.n (l0++b9 u.a (u.n.take i)) i)) (dP (an u.w) u.a (an u.n) ((l0++b9 u.a (u.n.take i)).map aO).length) _ _
    generalize eA:l0++b9 u.a (u.n.take i)=A at e1 hln
    refine aI ac aa ai ah (zJ (A.map aO) ((A++ [((p,u.a,false),false)]).map aO) (us.map UpV.cells) (an u.w) (an u.n) (an u.n) u.a p.1 p.2 j i ((A++ [((p,u.a,false),false)]).map aO).length [(((A++ [((p,u.a,false),false)]).map aO).length,8,true)] _) ?_
    refine aN (decide_eq_true (by rw [hlen];omega)) ⟨vD 30 32 rfl hr, ?_, ?_⟩
    · exact Ah (l:=A) (s:=((p,u.a,false),false)) (tl:= [((A.map aO).length,8,true)]) 36 41 rfl rfl (by omega)
    · rw [cf (by omega)]
      refine ⟨rfl,rfl,i+1,hlt,by show u.n.length-(i+1)<u.n.length-i;omega, .inr ⟨?_, ?_⟩⟩
      · show _=dP _ _ _ ((l0++b9 u.a (u.n.take (i+1))).map aO).length
        rw [e1]
        exact Ai u _ _
      · show _=ip us j u.n (l0++b9 u.a (u.n.take (i+1))) (i+1)
        rw [e1]
        exact Ag us j u.n _ (i+1)
  · obtain rfl:i=u.n.length:=by omega
    show VWx _ _ _ _ _ (aj 46 lW (ip us j u.n (l0++b9 u.a (u.n.take u.n.length)) u.n.length)) (dP (an u.w) u.a (an u.n) ((l0++b9 u.a (u.n.take u.n.length)).map aO).length) _ _
    rw [List.take_length]
    refine aI ac aa ai ah (zJ ((l0++b9 u.a u.n).map aO) [] (us.map UpV.cells) (an u.w) (an u.n) (an u.n) u.a 0 0 j u.n.length 0 [] _) (aH (decide_eq_false (by rw [hlen];omega)) ?_)
    exact ⟨rfl,rfl,rfl,rfl,rfl⟩
theorem B5 {us:List UpV} {j:Nat} {u:UpV} {tok:Tok} (x i:Nat) (hne:Nat.beq x i=false) (hp:us[j]?=some u):ax Tryz.prog ae (.indexAddr 27 (.tmp x) (.tmp i)) [(x, .vec 7 (us.map UpV.cells) tok),(i, .val (.int .i64 (j:Int)))] (.elt u.cells):=
 dU.ix hne (by simp [hp])
theorem Jt {us:List UpV} (h1:us.length≤50000) (h2:(bP us).length≤1000000) (K:KX) (hK:K .normal (aj 46 ns (jn ((bP us).map aO) (us.map UpV.cells) ((us.map UpV.cells).length:Nat))) (eS ((bP us).map aO).length) []):
    VWx Tryz.prog ae none 0 (am Tryz.prog dn 0) (aj 46 ns (jn [] (us.map UpV.cells) 0)) (eS 0) [] K:=by
  have hlen:(us.map UpV.cells).length=us.length:=List.length_map _
  refine bK (f:=dn) (id:=0) (by kernel_rfl) 46 ns (fun j:Nat=>us.length-j) (fun j:Nat=>jn ((bP (us.take j)).map aO) (us.map UpV.cells) (j:Int)) (fun j=>eS ((bP (us.take j)).map aO).length) (fun j=>j≤us.length) 0 1 (fun j _=>⟨Nat.le_refl _,Nat.le_refl _⟩)
    (fun e vs T=>e= .normal∧vs=jn ((bP us).map aO) (us.map UpV.cells) ((us.map UpV.cells).length:Nat)∧T=eS ((bP us).map aO).length) (fun j hj=> ?_) 0 (Nat.zero_le _) K ?_
  rotate_left
  · rintro e vs T ⟨rfl,rfl,rfl⟩
    exact hK
  by_cases hlt:j<us.length
  · have hr:=List.getElem?_eq_getElem hlt
    generalize us[j]=u at hr
    have e1:=xF hr
    have hln:=oZ us (j+1)
    have hln2:(bP (us.take (j+1))).length=(bP (us.take j)).length+u.w.length+u.n.length:=by
      rw [e1,List.length_append,List.length_append];unfold bJ b9;rw [List.length_map,List.length_map]
    show VWx _ _ _ _ _ (aj 46 ns (jn ((bP (us.take j)).map aO) (us.map UpV.cells) (j:Int))) (eS ((bP (us.take j)).map aO).length) _ _
    generalize eA:bP (us.take j)=A at e1 hln2
    have hw:(A++bJ u.w).length=A.length+u.w.length:=by rw [List.length_append];unfold bJ;rw [List.length_map]
    refine aI ac aa ai (aL fun p hp=> ?_) (zH (A.map aO) ((A++bJ u.w).map aO) ((A++bJ u.w++b9 u.a u.n).map aO) (us.map UpV.cells) (an u.w) (an u.n) u.a j _) (aN (decide_eq_true (by rw [hlen];omega)) ⟨B5 10 12 rfl hr,rfl,⟨rfl,rfl,rfl,trivial,rfl,rfl,rfl⟩,rfl,⟨rfl,rfl,rfl,trivial,rfl,rfl,rfl⟩, ?_⟩)
    · rcases List.mem_cons.1 hp with rfl | hp
      · refine aS fun K hK=>yc us u j A (by omega) K ?_
        rw [bw] at hK
        exact hK
      · obtain rfl:=List.mem_singleton.1 hp
        refine aS fun K hK=>yd us u j (A++bJ u.w) (by omega) K ?_
        rw [bw] at hK
        exact hK
    · rw [cf (by omega)]
      refine ⟨rfl,rfl,j+1,hlt,by show us.length-(j+1)<us.length-j;omega, .inr ⟨?_, ?_⟩⟩
      · show _=eS ((bP (us.take (j+1))).map aO).length
        rw [e1];rfl
      · show _=jn ((bP (us.take (j+1))).map aO) _ _
        rw [e1]
        simp only [jn,av,TV.ren,iK,bH,Tok.ren];rfl
  · obtain rfl:j=us.length:=by omega
    show VWx _ _ _ _ _ (aj 46 ns (jn ((bP (us.take us.length)).map aO) (us.map UpV.cells) (us.length:Int))) (eS ((bP (us.take us.length)).map aO).length) _ _
    rw [List.take_length]
    refine aI ac aa ai (aL fun p hp=> ?_) (zH ((bP us).map aO) ((bP us++bJ []).map aO) ((bP us++bJ []++b9 bm []).map aO) (us.map UpV.cells) (an (UpV.mk [] bm []).w) (an (UpV.mk [] bm []).n) bm us.length _) (aH (decide_eq_false (by rw [hlen];omega)) ?_)
    · rcases List.mem_cons.1 hp with rfl | hp
      · exact aS fun K hK=>yc us ⟨[],bm, []⟩ us.length (bP us) (by simpa using h2) K hK
      · obtain rfl:=List.mem_singleton.1 hp
        exact aS fun K hK=>yd us ⟨[],bm, []⟩ us.length (bP us++bJ []) (by simpa [bJ] using h2) K hK
    · exact ⟨rfl,rfl,rfl,by simp only [jn,hlen],rfl⟩
theorem MS {us:List UpV} (h1:us.length≤50000) (h2:(bO us).length≤1000000):VCx Tryz.prog ae 0 dn [.vec 7 (us.map UpV.cells) .none] ⟨[], []⟩ fun x T' =>x= .vec 8 ((bO us).map ag) .none∧T' =⟨[], []⟩:=by
 have h3:(bP us).length≤1000000:=by rw [←pK,List.length_map] at h2;exact h2
 refine VCx.toLe (Q:=fun T' =>T' =⟨[], []⟩) (VCx.keepQ 0 0 (Nat.le_refl _) (Nat.le_refl _) (ak ac aa ai (aL fun p hp=> ?_) (Mr ((bP us).map aO) (us.map UpV.cells) _) ⟨rfl,⟨rfl,rfl,rfl,⟨rfl,trivial⟩,rfl,rfl,rfl⟩, ?_,rfl⟩))
 ·obtain rfl:=List.mem_singleton.1 hp
  exact aS (Jt h1 h3)
 ·simp only [TV.ren,iK]
  intro g w v hv
  have h4:=TVle.vecMem (size:=8) (f:=aO) (g:=fun s=>ag s.1) (l:=bP us) D3 g w v (eQ hv)
  rw [show (bP us).map (fun s=>ag s.1)=(bO us).map ag by rw [←pK,List.map_map];rfl] at h4
  exact h4
theorem Ju (l:Bs):∀ro ys T K,xW l ro ys T K→VCx Tryz.prog ae ro dn ys T K:=by
 intro ro ys T K h
 unfold xW at h
 split at h
 ·obtain ⟨⟨us,rfl,h1,h2,rfl⟩,hk⟩:=h
  refine VCx.argsLe (xs:= [.vec 7 (us.map UpV.cells) .none]) ⟨.vec _ _ _,trivial⟩ ?_
  exact VCx.liftPure ap (MS h1 h2) (by simp only [av,TV.ren,bH,Tok.ren]) (fun _ _=>by simp only [TV.ren,aP,Tok.ren]) hk
 ·exact h.elim
end
section
open Go.RowKit Go.Deep Go.WideShapes Go.ChangeAt
set_option maxRecDepth 100000

theorem OD (g k:Bool):aG BinOp.neq (ar (Value.bool g) (Value.bool k))= !decide (g=k):=by cases g<;>cases k<;>rfl
theorem Jv {cs ds:List Ch} (hc:CsOk cs) (hd:CsOk ds) (hl:cs.length=ds.length) (K:KX) (hK:bif decide (cs=ds) then K .normal (aj 55 nr (kO (cs.map ag) (ds.map ag) ((cs.map ag).length:Nat))) ⟨[], []⟩ [] else ∀(jj:Int) (oo:List VO),K .ret (aj 55 nr (kO (cs.map ag) (ds.map ag) jj)) ⟨oo, []⟩ []):
    VWx Tryz.prog ae none 0 (am Tryz.prog gj 0) (aj 55 nr (kO (cs.map ag) (ds.map ag) 0)) ⟨[], []⟩ [] K:=by
  have hlen:=bL cs
  have hf:=hc.few
  have hS:∀ok,aQ Tryz.prog ae (aw [(gi,il ok)]):=fun ok=>aE fun p hp=>by obtain rfl:=List.mem_singleton.1 hp;exact my _
  refine bK (f:=gj) (id:=0) (by kernel_rfl) 55 nr (fun j:Nat=>cs.length-j) (fun j:Nat=>kO (cs.map ag) (ds.map ag) (j:Int)) (fun _=>⟨[], []⟩) (fun j=>j≤cs.length∧cs.take j=ds.take j) 0 0 (fun j _=>⟨Nat.le_refl _,Nat.le_refl _⟩)
    (fun e vs T=>(cs=ds∧T=⟨[], []⟩∧e= .normal∧vs=kO (cs.map ag) (ds.map ag) ((cs.map ag).length:Nat))∨(cs≠ds∧e= .ret∧∃(jj:Int) (oo:List VO),T=⟨oo, []⟩∧vs=kO (cs.map ag) (ds.map ag) jj)) (fun j ⟨hj,ht⟩=> ?_) 0 ⟨Nat.zero_le _,rfl⟩ K ?_
  rotate_left
  · rintro e vs T (⟨h1,rfl,rfl,rfl⟩ | ⟨h1,rfl,jj,oo,rfl,rfl⟩)
    · rw [decide_eq_true h1,cond_true] at hK;exact hK
    · rw [decide_eq_false h1,cond_false] at hK;exact hK jj oo
  by_cases hlt:j<cs.length
  · have hr:=List.getElem?_eq_getElem hlt
    have hm:cs[j]∈cs:=List.getElem_mem hlt
    have hlt2:j<ds.length:=by omega
    have hr2:=List.getElem?_eq_getElem hlt2
    have hm2:ds[j]∈ds:=List.getElem_mem hlt2
    generalize cs[j]=c at hr hm
    generalize ds[j]=d at hr2 hm2
    have no:c≠d→cs≠ds:=fun h e=>by
      subst e
      rw [hr] at hr2;injection hr2 with hr2
      exact h hr2
    refine aI ac aa (hS (decide (c.2.1=d.2.1))) ah (zK (cs.map ag) (ds.map ag) c.1.1 c.1.2 d.1.1 d.1.2 c.2.1 d.2.1 c.2.2 d.2.2 (decide (c.2.1=d.2.1)) j _) ?_
    have hk:aG BinOp.neq (ar ((fun vs=>Value.agg (List.toArray vs)) ((fun x=>Value.int IntKind.u32 c.1.1::x) ((fun x=>Value.int IntKind.i64 c.1.2::x) []))) ((fun vs=>Value.agg (List.toArray vs)) ((fun x=>Value.int IntKind.u32 d.1.1::x) ((fun x=>Value.int IntKind.i64 d.1.2::x) []))))= !decide (c.1=d.1):=by
      have h1:aG BinOp.neq (ar (.agg #[.int .u32 c.1.1, .int .i64 c.1.2]) (.agg #[.int .u32 d.1.1, .int .i64 d.1.2]))= !(decide (c.1.1=d.1.1)&&decide (c.1.2=d.1.2)):=by
        simp [aG,ar,dh,ct,Bool.beq_eq_decide_eq]
      refine h1.trans ?_
      rw [←Bool.decide_and]
      exact congrArg _ (decide_eq_decide.2 ⟨fun h=>Prod.ext h.1 h.2,fun h=>by rw [h];exact ⟨rfl,rfl⟩⟩)
    refine aN (decide_eq_true (by rw [hlen];omega)) ⟨dt 16 17 rfl hr,dt 21 22 rfl hr2, ?_⟩
    rw [hk,OD]
    refine aF (fun h=>⟨rfl,rfl, .inr ⟨no fun e=>by rw [e] at h;simp at h,rfl,_,_,rfl,rfl⟩⟩) (fun h=>⟨dt 28 29 rfl hr,dt 33 34 rfl hr2,aF (fun h2=>⟨rfl,rfl, .inr ⟨no fun e=>by rw [e] at h2;simp at h2,rfl,_,_,rfl,rfl⟩⟩) (fun h2=>⟨dt 41 42 rfl hr,dt 46 47 rfl hr2,⟨c.2.1,d.2.1,AtV.le_refl _,AtV.le_refl _,(hc.at' c hm).1,rfl⟩,aF (fun h3=>⟨rfl,rfl, .inr ⟨no fun e=>by rw [e] at h3;simp at h3,rfl,_,_,rfl,rfl⟩⟩) (fun h3=> ?_)⟩)⟩)
    have he:c=d:=by
      simp only [Bool.not_eq_false',decide_eq_true_eq] at h h2 h3
      exact Prod.ext h (Prod.ext h3 h2)
    subst he
    rw [cf (by omega)]
    exact ⟨rfl,rfl,j+1,⟨hlt,by rw [bZ hr,bZ hr2,ht]⟩,by show cs.length-(j+1)<cs.length-j;omega, .inl ⟨rfl,rfl⟩⟩
  · obtain rfl:j=cs.length:=by omega
    refine aI ac aa (hS true) ah (zK (cs.map ag) (ds.map ag) 0 0 0 0 bm bm true true true cs.length _) (aH (decide_eq_false (by rw [hlen];omega)) ?_)
    refine ⟨rfl,rfl, .inl ⟨?_,rfl,rfl,by simp only [kO,hlen]⟩⟩
    rw [List.take_length] at ht
    rw [ht,hl,List.take_length]
theorem ye (c:Code):eP Tryz.prog ae (FV c):=aL fun p hp=>by obtain rfl:=List.mem_singleton.1 hp;exact fun _ _ _ _ _ _ h=>h.elim
theorem MT {cs ds:List Ch} (hc:CsOk cs) (hd:CsOk ds):VCx Tryz.prog ae 0 gj [.vec 8 (cs.map ag) .none, .vec 8 (ds.map ag) .none] ⟨[], []⟩ fun x T' =>x= .val (.bool (decide (cs=ds)))∧T' =⟨[], []⟩:=by
  have hf:=hc.few
  have hg:=hd.few
  by_cases hl:cs.length=ds.length
  · refine VCx.keepQ 0 0 (Nat.le_refl _) (Nat.le_refl _) (ak ac aa ai (aL fun p hp=> ?_) (Ms (cs.map ag) (ds.map ag) (decide (cs=ds)) _) ?_)
    · obtain rfl:=List.mem_singleton.1 hp
      exact aS (Jv hc hd hl)
    · rw [lg,bL,bL]
      refine aH (by simp;omega) ⟨rfl,⟨rfl,rfl,rfl,trivial,rfl,rfl,rfl⟩, ?_⟩
      cases hcd:decide (cs=ds)
      · exact aH rfl fun jj oo=>⟨rfl,by simp [VT.keep]⟩
      · exact aN rfl ⟨rfl,rfl⟩
  · have hne:decide (cs=ds)=false:=decide_eq_false fun h=>hl (by rw [h])
    rw [hne]
    refine VCx.keepQ 0 0 (Nat.le_refl _) (Nat.le_refl _) (ak ac aa ai (ye _) (IV (cs.map ag) (ds.map ag) _) (aN ?_ ⟨rfl,rfl⟩))
    rw [lg,bL,bL]
    simp only [Bool.not_eq_true',decide_eq_false_iff_not]
    omega
theorem Jw (b:Bs→Bs→Bool):∀ro ys T K,xP b ro ys T K→VCx Tryz.prog ae ro gj ys T K:=by
 intro ro ys T K h
 unfold xP at h
 split at h
 ·obtain ⟨⟨cs,ds,rfl,rfl,h1,h2,h3⟩,hk⟩:=h
  rw [h3] at hk
  refine VCx.argsLe (xs:= [.vec 8 (cs.map ag) .none, .vec 8 (ds.map ag) .none]) ⟨.vec _ _ _, .vec _ _ _,trivial⟩ ?_
  exact VCx.liftPure ap (MT h1 h2) (by simp only [av,TV.ren,aP,Tok.ren]) (fun _ _=>rfl) hk
 ·exact h.elim
theorem Jx {cs:List Ch} (hl:cs.length≤1000000) (K:KX) (hK:K .normal (aj 24 cR (kQ (cs.map ag) (cs.map ag) ((cs.map ag).length:Nat))) (eS (cs.map ag).length) []):
    VWx Tryz.prog ae none 0 (am Tryz.prog ji 0) (aj 24 cR (kQ (cs.map ag) [] 0)) (eS 0) [] K:=by
  have hlen:=bL cs
  refine bK (f:=ji) (id:=0) (by kernel_rfl) 24 cR (fun j:Nat=>cs.length-j) (fun j:Nat=>kQ (cs.map ag) ((cs.take j).map ag) (j:Int)) (fun j=>eS ((cs.take j).map ag).length) (fun j=>j≤cs.length) 0 1 (fun _ _=>⟨Nat.le_refl _,Nat.le_refl _⟩)
    (fun e vs T=>e= .normal∧vs=kQ (cs.map ag) (cs.map ag) ((cs.map ag).length:Nat)∧T=eS (cs.map ag).length) (fun j hj=> ?_) 0 (Nat.zero_le _) K ?_
  rotate_left
  · rintro e vs T ⟨rfl,rfl,rfl⟩
    exact hK
  by_cases hlt:j<cs.length
  · have hr:=List.getElem?_eq_getElem hlt
    generalize cs[j]=c at hr
    have e1:(cs.take (j+1)).map ag=(cs.take j).map ag++ [ag c]:=by rw [bZ hr,List.map_append];rfl
    have hln:((cs.take j).map ag).length≤1000000:=by rw [List.length_map,List.length_take];omega
    show VWx _ _ _ _ _ (aj 24 cR (kQ (cs.map ag) ((cs.take j).map ag) (j:Int))) (eS ((cs.take j).map ag).length) _ _
    refine aI ac aa ai ah (zL (cs.map ag) ((cs.take j).map ag) ((cs.take j).map ag++ [ag c]) c.1.1 c.1.2 c.2.1 c.2.2 j ((cs.take j).map ag++ [ag c]).length [(((cs.take j).map ag++ [ag c]).length,8,true)] _) ?_
    refine aN (decide_eq_true (by rw [hlen];omega)) ⟨ng 6 8 rfl hr,dI.appL (T:=⟨[_], [(_,8,true)]⟩) (k:=0) (es2:= [_]) rfl rfl (by simp only [List.length_cons,List.length_nil];omega), ?_⟩
    rw [cf (by omega),←e1]
    exact ⟨rfl,rfl,j+1,hlt,by show cs.length-(j+1)<cs.length-j;omega, .inr ⟨rfl,by simp only [kQ,av,TV.ren,aP,Tok.ren];rfl⟩⟩
  · obtain rfl:j=cs.length:=by omega
    show VWx _ _ _ _ _ (aj 24 cR (kQ (cs.map ag) ((cs.take cs.length).map ag) (cs.length:Int))) (eS ((cs.take cs.length).map ag).length) _ _
    rw [List.take_length]
    refine aI ac aa ai ah (zL (cs.map ag) (cs.map ag) [] 0 0 bm true cs.length 0 [] _) (aH (decide_eq_false (by rw [hlen];omega)) ?_)
    exact ⟨rfl,rfl,rfl,by simp only [kQ,hlen],rfl⟩
theorem Jy {cs:List Ch} (hl:cs.length≤1000000):VCx Tryz.prog ae 0 ji [.vec 8 (cs.map ag) .none] ⟨[], []⟩ fun x T' =>x= .vec 8 (cs.map ag) .none∧T' =⟨[], []⟩:=by
 refine VCx.keepQ 0 0 (Nat.le_refl _) (Nat.le_refl _) (ak ac aa ai (aL fun p hp=> ?_) (Mt (cs.map ag) _) ⟨rfl,⟨rfl,rfl,rfl,⟨rfl,trivial⟩,rfl,rfl,rfl⟩,by simp only [TV.ren,aP];rfl,rfl⟩)
 obtain rfl:=List.mem_singleton.1 hp
 exact aS (Jx hl)
theorem Jz:∀ro ys T K,xQ ro ys T K→VCx Tryz.prog ae ro ji ys T K:=by
 intro ro ys T K h
 unfold xQ at h
 split at h
 ·obtain ⟨⟨cs,rfl,h1⟩,hk⟩:=h
  refine VCx.argsLe (xs:= [.vec 8 (cs.map ag) .none]) ⟨.vec _ _ _,trivial⟩ ?_
  exact VCx.liftPure ap (Jy h1) (by simp only [av,TV.ren,aP,Tok.ren]) (fun _ _=>by simp only [TV.ren,aP,Tok.ren]) hk
 ·exact h.elim
theorem JA {cs:List UpV} (hl:cs.length≤1000000) (K:KX) (hK:K .normal (aj 24 cR (kR (cs.map UpV.cells) (cs.map UpV.cells) ((cs.map UpV.cells).length:Nat))) (dB (cs.map UpV.cells).length) []):
    VWx Tryz.prog ae none 0 (am Tryz.prog jk 0) (aj 24 cR (kR (cs.map UpV.cells) [] 0)) (dB 0) [] K:=by
  have hlen:(cs.map UpV.cells).length=cs.length:=List.length_map _
  refine bK (f:=jk) (id:=0) (by kernel_rfl) 24 cR (fun j:Nat=>cs.length-j) (fun j:Nat=>kR (cs.map UpV.cells) ((cs.take j).map UpV.cells) (j:Int)) (fun j=>dB ((cs.take j).map UpV.cells).length) (fun j=>j≤cs.length) 0 1 (fun _ _=>⟨Nat.le_refl _,Nat.le_refl _⟩)
    (fun e vs T=>e= .normal∧vs=kR (cs.map UpV.cells) (cs.map UpV.cells) ((cs.map UpV.cells).length:Nat)∧T=dB (cs.map UpV.cells).length) (fun j hj=> ?_) 0 (Nat.zero_le _) K ?_
  rotate_left
  · rintro e vs T ⟨rfl,rfl,rfl⟩
    exact hK
  by_cases hlt:j<cs.length
  · have hr:=List.getElem?_eq_getElem hlt
    generalize cs[j]=c at hr
    have e1:(cs.take (j+1)).map UpV.cells=(cs.take j).map UpV.cells++ [c.cells]:=by rw [bZ hr,List.map_append];rfl
    have hln:((cs.take j).map UpV.cells).length≤1000000:=by rw [List.length_map,List.length_take];omega
    show VWx _ _ _ _ _ (aj 24 cR (kR (cs.map UpV.cells) ((cs.take j).map UpV.cells) (j:Int))) (dB ((cs.take j).map UpV.cells).length) _ _
    refine aI ac aa ai ah (zM (cs.map UpV.cells) ((cs.take j).map UpV.cells) ((cs.take j).map UpV.cells++ [c.cells]) (an c.w) (an c.n) c.a j ((cs.take j).map UpV.cells++ [c.cells]).length [(((cs.take j).map UpV.cells++ [c.cells]).length,7,true)] _) ?_
    refine aN (decide_eq_true (by rw [hlen];omega)) ⟨GG 6 8 rfl hr,dU.appL (T:=⟨[_], [(_,7,true)]⟩) (k:=0) (es2:= [_]) rfl rfl (by simp only [List.length_cons,List.length_nil];omega), ?_⟩
    rw [cf (by omega),←e1]
    exact ⟨rfl,rfl,j+1,hlt,by show cs.length-(j+1)<cs.length-j;omega, .inr ⟨rfl,by simp only [kR,av,TV.ren,bH,Tok.ren];rfl⟩⟩
  · obtain rfl:j=cs.length:=by omega
    show VWx _ _ _ _ _ (aj 24 cR (kR (cs.map UpV.cells) ((cs.take cs.length).map UpV.cells) (cs.length:Int))) (dB ((cs.take cs.length).map UpV.cells).length) _ _
    rw [List.take_length]
    refine aI ac aa ai ah (zM (cs.map UpV.cells) (cs.map UpV.cells) [] [] [] bm cs.length 0 [] _) (aH (decide_eq_false (by rw [hlen];omega)) ?_)
    exact ⟨rfl,rfl,rfl,by simp only [kR,hlen],rfl⟩
theorem JB {cs:List UpV} (hl:cs.length≤1000000):VCx Tryz.prog ae 0 jk [.vec 7 (cs.map UpV.cells) .none] ⟨[], []⟩ fun x T' =>x= .vec 7 (cs.map UpV.cells) .none∧T' =⟨[], []⟩:=by
 refine VCx.keepQ 0 0 (Nat.le_refl _) (Nat.le_refl _) (ak ac aa ai (aL fun p hp=> ?_) (Mu (cs.map UpV.cells) _) ⟨rfl,⟨rfl,rfl,rfl,⟨rfl,trivial⟩,rfl,rfl,rfl⟩,by simp only [TV.ren,bH];rfl,rfl⟩)
 obtain rfl:=List.mem_singleton.1 hp
 exact aS (JA hl)
theorem JC:∀ro ys T K,xR ro ys T K→VCx Tryz.prog ae ro jk ys T K:=by
 intro ro ys T K h
 unfold xR at h
 split at h
 ·obtain ⟨⟨cs,rfl,h1⟩,hk⟩:=h
  refine VCx.argsLe (xs:= [.vec 7 (cs.map UpV.cells) .none]) ⟨.vec _ _ _,trivial⟩ ?_
  exact VCx.liftPure ap (JB h1) (by simp only [av,TV.ren,bH,Tok.ren]) (fun _ _=>by simp only [TV.ren,bH,Tok.ren]) hk
 ·exact h.elim
end
section
open Go.RowKit Go.Deep Go.WideShapes Go.ChangeAt
set_option maxRecDepth 100000

def vk (L:Bs):Bool:=ig (L.map ra)
theorem tb (cs:List Ch):vk (cs.map ag)=ig cs:=by unfold vk;rw [iJ]
def vl (L M:Bs):Bool:=decide (L.map ra=M.map ra)
theorem tc (cs ds:List Ch):vl (cs.map ag) (ds.map ag)=decide (cs=ds):=by unfold vl;rw [iJ,iJ]
theorem JD (b:Bs→Bool):∀ro ys T K,xS b ro ys T K→VCx Tryz.prog ae ro BI ys T K:=by
 intro ro ys T K h
 unfold xS at h
 split at h
 ·obtain ⟨⟨cs,rfl,e⟩,hk⟩:=h
  rw [e] at hk
  refine VCx.argsLe (xs:= [.vec 8 (cs.map ag) .none, .val (.int .i64 60)]) ⟨.vec _ _ _, .refl _,trivial⟩ ?_
  exact VCx.liftPure ap (L8 cs) (by simp only [av,TV.ren,aP,Tok.ren]) (fun _ _=>rfl) hk
 ·exact h.elim
theorem JE:∀ro ys T K,xT ro ys T K→VCx Tryz.prog ae ro BJ ys T K:=by
 intro ro ys T K h
 unfold xT at h
 split at h
 ·exact VCx.liftPure ap Mb rfl (fun _ _=>rfl) h
 ·exact h.elim
theorem JF (u:Bs):∀ro ys T K,xN u ro ys T K→VCx Tryz.prog ae ro BE ys T K:=by
 intro ro ys T K h
 unfold xN at h
 split at h
 ·obtain ⟨⟨cs,rfl,hc,rfl⟩,hk⟩:=h
  refine VCx.argsLe (xs:= [.vec 8 (cs.map ag) .none]) ⟨.vec _ _ _,trivial⟩ ?_
  exact VCx.liftPure ap (D0 hc) (by simp only [av,TV.ren,aP,Tok.ren]) (fun _ _=>by simp only [TV.ren,bH,Tok.ren]) hk
 ·exact h.elim
theorem JG (u:Bs):∀ro ys T K,xM u ro ys T K→VCx Tryz.prog ae ro BD ys T K:=by
 intro ro ys T K h
 unfold xM at h
 split at h
 ·obtain ⟨⟨cs,rfl,hc,rfl⟩,hk⟩:=h
  have hf:=hc.few
  refine VCx.argsLe (xs:= [.vec 8 (cs.map ag) .none]) ⟨.vec _ _ _,trivial⟩ ?_
  exact VCx.liftPure ap (DH (by omega) (fun c h=>(hc.at' c h).1) .none) (by simp only [av,TV.ren,aP,Tok.ren]) (fun _ _=>by simp only [TV.ren,aP,Tok.ren]) hk
 ·exact h.elim
theorem JH (l:Bs):∀ro ys T K,xO l ro ys T K→VCx Tryz.prog ae ro BF ys T K:=by
 intro ro ys T K h
 unfold xO at h
 split at h
 ·obtain ⟨⟨us,rfl,h1,h2,rfl⟩,hk⟩:=h
  refine VCx.argsLe (xs:= [.vec 7 (us.map UpV.cells) .none]) ⟨.vec _ _ _,trivial⟩ ?_
  exact VCx.liftPure ap (L2 h1 h2) (by simp only [av,TV.ren,bH,Tok.ren]) (fun _ _=>by simp only [TV.ren,aP,Tok.ren]) hk
 ·exact h.elim
theorem F2 (b:Bool):∀ro ys T K,s8 b ro ys T K→VCx Tryz.prog ae ro BG ys T K:=by
 intro ro ys T K h
 unfold s8 at h
 split at h
 ·exact Ma b _ _ _ _ h
 ·exact h.elim
theorem F3 (b:Bool):∀ro ys T K,s7 b ro ys T K→VCx Tryz.prog ae ro BH ys T K:=by
 intro ro ys T K h
 unfold s7 at h
 split at h
 ·obtain ⟨⟨c,rfl,h1,rfl⟩,hk⟩:=h
  exact VCx.liftPure ap (Dx c.1 c.2.2 h1) (by simp only [av,TV.ren,gU];rfl) (fun _ _=>rfl) hk
 ·exact h.elim
theorem JI {cs ds:List Ch} {us:List UpV} (hl:us.length≤50000) (hok:∀u∈us,ib u) (K:KX) (hK:K .normal (aj 90 rt (nx (cs.map ag) (ds.map ag) (us.map UpV.cells) ((us.map UpV.cells).length:Nat))) ⟨[], []⟩ []):
    VWx Tryz.prog ae none 0 (am Tryz.prog jl 0) (aj 90 rt (nx (cs.map ag) (ds.map ag) (us.map UpV.cells) 0)) ⟨[], []⟩ [] K:=by
  have hlen:(us.map UpV.cells).length=us.length:=List.length_map _
  have hS:aQ Tryz.prog ae (aw [(xL,BW)]):=aE fun p hp=>by obtain rfl:=List.mem_singleton.1 hp;exact Jk
  refine bK (f:=jl) (id:=0) (by kernel_rfl) 90 rt (fun j:Nat=>us.length-j) (fun j:Nat=>nx (cs.map ag) (ds.map ag) (us.map UpV.cells) (j:Int)) (fun _=>⟨[], []⟩) (fun j=>j≤us.length) 0 0 (fun j _=>⟨Nat.le_refl _,Nat.le_refl _⟩)
    (fun e vs T=>e= .normal∧vs=nx (cs.map ag) (ds.map ag) (us.map UpV.cells) ((us.map UpV.cells).length:Nat)∧T=⟨[], []⟩) (fun j hj=> ?_) 0 (Nat.zero_le _) K ?_
  rotate_left
  · rintro e vs T ⟨rfl,rfl,rfl⟩
    exact hK
  by_cases hlt:j<us.length
  · have hr:=List.getElem?_eq_getElem hlt
    have hm:us[j]∈us:=List.getElem_mem hlt
    generalize us[j]=u at hr hm
    obtain ⟨h1,h2,h3,h4,h5⟩:=hok u hm
    refine aI ac aa hS ah (zS (cs.map ag) (ds.map ag) (us.map UpV.cells) (an u.w) (an u.n) u.a j _) ?_
    refine aN (decide_eq_true (by rw [hlen];omega)) ⟨B5 29 31 rfl hr,B5 37 38 rfl hr,⟨u,rfl,rfl,by omega,by omega,h3⟩, ?_⟩
    rw [cf (by omega)]
    exact ⟨rfl,rfl,j+1,hlt,by show us.length-(j+1)<us.length-j;omega, .inr ⟨by simp [VT.keep],by simp only [nx,av,TV.ren,aP,bH,Tok.ren]⟩⟩
  · obtain rfl:j=us.length:=by omega
    refine aI ac aa hS ah (zS (cs.map ag) (ds.map ag) (us.map UpV.cells) [] [] bm us.length _) (aH (decide_eq_false (by rw [hlen];omega)) ?_)
    exact ⟨rfl,rfl,rfl,by simp only [nx,hlen],rfl⟩
theorem MU (b:Bool):aG BinOp.eql (ar (Value.bool b) (Value.bool b))=true:=by cases b<;>rfl
def nz (c:Ch):Prop:=Mc c∧gg c.1.1 c.1.2
theorem vm {cs:List Ch} (hb:ig cs=true):cs.length≤60:=by
 unfold ig at hb
 by_cases hd:(cs.length:Int)>60
 ·rw [decide_eq_true hd,cond_true] at hb;cases hb
 ·omega
theorem MV {cs ds:List Ch} (h:∀c∈cs,nz c) (h2:∀c∈ds,nz c):VCx Tryz.prog ae 0 jl [.vec 8 (cs.map ag) .none, .vec 8 (ds.map ag) .none] ⟨[], []⟩ fun x T' =>x= .val (.bool true)∧T' =⟨[], []⟩:=by
 have hS:aQ Tryz.prog ae (aw [(BI,xS vk),(BJ,xT),(BE,xN ((bQ cs).map UpV.cells)),(ji,xQ),(cG,xV ((bQ cs).map UpV.cells)),(jk,xR),(BD,xM ((bt cs).map ag)),(en,rq ((bt cs).map ag)),(gj,xP vl),(BF,xO ((bO (bQ cs)).map ag)),(dn,xW ((bO (bQ cs)).map ag)),(BG,s8 (decide (cs=ds))),(BH,s7 (cC (cs.headD ((0,0),bm,false)))),(tZ,rf (cC (cs.headD ((0,0),bm,false))))]):=aE fun p hp=>by
  rcases List.mem_cons.1 hp with rfl | hp;exact JD _
  rcases List.mem_cons.1 hp with rfl | hp;exact JE
  rcases List.mem_cons.1 hp with rfl | hp;exact JF _
  rcases List.mem_cons.1 hp with rfl | hp;exact Jz
  rcases List.mem_cons.1 hp with rfl | hp;exact Js _
  rcases List.mem_cons.1 hp with rfl | hp;exact JC
  rcases List.mem_cons.1 hp with rfl | hp;exact JG _
  rcases List.mem_cons.1 hp with rfl | hp;exact Ae _
  rcases List.mem_cons.1 hp with rfl | hp;exact Jw _
  rcases List.mem_cons.1 hp with rfl | hp;exact JH _
  rcases List.mem_cons.1 hp with rfl | hp;exact Ju _
  rcases List.mem_cons.1 hp with rfl | hp;exact F2 _
  rcases List.mem_cons.1 hp with rfl | hp;exact F3 _
  obtain rfl:=List.mem_singleton.1 hp;exact Ab _
 have d1:nn (cs.map ag) (vk (cs.map ag)):=⟨cs,rfl,tb cs⟩
 have d2:nn (ds.map ag) (vk (ds.map ag)):=⟨ds,rfl,tb ds⟩
 have l1:=tb cs
 have l2:=tb ds
 generalize hcd:cs.headD ((0,0),bm,false)=c at hS
 cases hb:ig cs with
 | false=>exact VCx.keepQ 0 0 (Nat.le_refl _) (Nat.le_refl _) (ak ac aa hS (ye _) (zQ (cs.map ag) (ds.map ag) ((bQ cs).map UpV.cells) ((bt cs).map ag) ((bO (bQ cs)).map ag) vk vl (decide (cs=ds)) (cC c) 0 0 bm true _) ⟨d1,aN (by rw [l1,hb];rfl) ⟨rfl,rfl⟩⟩)
 | true=>
  cases hb2:ig ds with
  | false=>exact VCx.keepQ 0 0 (Nat.le_refl _) (Nat.le_refl _) (ak ac aa hS (ye _) (zQ (cs.map ag) (ds.map ag) ((bQ cs).map UpV.cells) ((bt cs).map ag) ((bO (bQ cs)).map ag) vk vl (decide (cs=ds)) (cC c) 0 0 bm true _) ⟨d1,aH (by rw [l1,hb];rfl) ⟨d2,aN (by rw [l2,hb2];rfl) ⟨rfl,rfl⟩⟩⟩)
  | true=>
   have f1:=vm hb
   have f2:=vm hb2
   have hcd1:CdOk cs:=⟨f1,h⟩
   have hc:CsOk cs:=hcd1.cs
   have hc2:CsOk ds:=⟨by omega,fun c hc=>(h2 c hc).1⟩
   have ho:=tX hc
   have hpm:=yx cs
   have hu:=D8 ho hpm
   obtain ⟨k1,k2⟩:=IF hc
   have k3:=hu.few
   have k4:=ho.few
   have ss:∀L:List Ch,sZ (L.map ag) (L.map ag) (vl (L.map ag) (L.map ag)) ↔ CsOk L:=fun L=>⟨fun ⟨a,_,e,_,h,_⟩=>by have:=congrArg (List.map ra) e;rw [iJ,iJ] at this;rw [this];exact h,fun h=>⟨L,L,rfl,rfl,h,h,tc L L⟩⟩
   have sT:∀L:List Ch,vl (L.map ag) (L.map ag)=true:=fun L=>by rw [tc];exact decide_eq_true rfl
   refine VCx.keepQ 0 0 (Nat.le_refl _) (Nat.le_refl _) (ak ac aa hS (aL fun p hp=> ?_) (Mw (cs.map ag) (ds.map ag) ((bQ cs).map UpV.cells) ((bt cs).map ag) ((bO (bQ cs)).map ag) vk vl (decide (cs=ds)) (cC c) c.1.1 c.1.2 c.2.1 c.2.2 _) ⟨d1,aH (by rw [l1,hb];rfl) ⟨d2,aH (by rw [l2,hb2];rfl) ⟨⟨cs,rfl,hc,rfl⟩,⟨cs,rfl,by omega⟩,⟨cs,rfl,hcd1,rfl⟩,aH (by rw [lg];simp) ⟨⟨bQ cs,rfl,by omega⟩,rfl,⟨rfl,rfl,rfl,trivial,rfl,rfl,rfl⟩,⟨cs,rfl,hc,rfl⟩,⟨bt cs,rfl,by omega⟩,⟨cs,rfl,by omega⟩,⟨cs,rfl,hcd1,rfl⟩,(ss _).2 ho,aN (sT _) ⟨⟨bQ cs,rfl,k2,by omega,rfl⟩,⟨_,rfl,by omega⟩,⟨bQ cs,rfl,k2,by omega,rfl⟩,(ss _).2 hu,aN (sT _) ⟨⟨cs,ds,rfl,rfl,hc,hc2,rfl⟩,⟨cs,rfl,by omega⟩,⟨ds,rfl,by omega⟩,⟨cs,ds,rfl,rfl,hc,hc2,tc cs ds⟩,aN (by rw [tc];exact MU _) (aF (fun _=>⟨rfl,rfl⟩) (fun hn=> ?_))⟩⟩⟩⟩⟩⟩)
   ·obtain rfl:=List.mem_singleton.1 hp
    exact aS (JI k2 k1)
   ·rw [nK,bL] at hn
    have hne:=of_decide_eq_false hn
    have hm:cs[0]?=some c∧c∈cs:=by
     cases cs with
     | nil=>exact absurd rfl hne
     | cons e t=>exact ⟨by rw [←hcd];rfl,by rw [←hcd];exact List.mem_cons_self⟩
    obtain ⟨q1,q2⟩:=h c hm.2
    exact ⟨oT.ix0 (by simp [hm.1];rfl),⟨c,rfl,q1.1,rfl⟩,⟨cs,rfl,by omega⟩,dI.ix0 (by simp [hm.1];rfl),⟨c,rfl,q1.1,q2,rfl⟩,aN (MU _) ⟨rfl,rfl⟩⟩
theorem NN {z:Int} (h:(Lit.int .i64 z).wf=true):-9223372036854775808≤z∧z≤9223372036854775807:=by
 simp [Lit.wf] at h
 have e0:IntKind.i64.min=-9223372036854775808:=by decide
 have e1:IntKind.i64.max=9223372036854775807:=by decide
 omega
theorem JJ {xs:List TV} (h:dR FT xs):∃t:Ch,xs=ag t∧nz t:=by
 obtain ⟨t,rfl,ht⟩:=Md h
 refine ⟨t,rfl,ht, ?_⟩
 obtain ⟨x1,r1,e1,h1,g1⟩:=c7 h
 obtain ⟨x2,r2,e2,h2,g2⟩:=c7 g1
 subst e2
 obtain ⟨a,rfl,w1⟩:=fH h1
 obtain ⟨n,rfl,w2⟩:=fH h2
 simp only [ag,az,List.cons_append,List.nil_append,List.cons.injEq,TV.val.injEq,Value.int.injEq,true_and] at e1
 obtain ⟨rfl,rfl,_⟩:=e1
 exact ⟨GH w1,NN w2⟩
theorem qx {H:Type} {enc:TypeId × Value→H} {w:World} {b0 base:Nat} {held:Bool} {v:Value} {d:DataW H} {p:List MemPlace}
  (hv:Value.okWide Tryz.prog w .any b0 22 v) (h:DataW.Trod enc Tryz.prog w base (fun _=>true) held 22 v d p):∃l:List Ch,VR (lM w) w (.vec 8 (l.map ag) .none) v∧(∀t∈l,nz t):=by
 obtain ⟨x,h1,h2⟩:=A6 (m:=9) (sh:= .slice FT) (by kernel_rfl) hv h
 obtain ⟨l,rfl,hl,hf⟩:=sj h2
 obtain ⟨l,rfl,ha⟩:=Bu ag nz l fun e he=>JJ (hf e he)
 exact ⟨l,h1,ha⟩
theorem F4 (l m:List Ch) (ha:∀t∈l,nz t) (hb:∀t∈m,nz t) (v v2:Value) (w:World) (hv:VR (lM w) w (.vec 8 (l.map ag) .none) v) (hv2:VR (lM w) w (.vec 8 (m.map ag) .none) v2):Calls Tryz.prog 3 #[v,v2] w fun e w' =>e= .returned (.bool true)∧Gr w w' :=
 VCx.top (us:= [v,v2]) ((MV ha hb).mono fun x T' h=>by rw [h.1];unfold tJ;first | rfl | trivial) w (VRs.cons hv (VRs.cons hv2 (VRs.nil _ _)))
end
section
open Go.ChangeShapes Go.WideShapes Go.ChangeAt Go.RowKit Go.Joins

theorem F5:ownKnob Tryz.prog.godebug=none:=by kernel_rfl
theorem vn:laidOutB Tryz.prog=true:=by kernel_rfl

end
section
open Go.ChangeShapes Go.WideShapes Go.ChangeAt Go.RowKit

theorem ug (os:Os) (started:os.Started) (H:Type) (enc:TypeId × Value→H):
    ReturnsInHanded {} Tryz.checked os 3 .any (Rows.packAllSpec.pre6 enc Tryz.prog Tryz.f3 Rows.packAllRow.domain false) (Rows.packAllSpec.post enc Tryz.prog Tryz.f3 false true false false):=by
  refine returnsInHanded_of_change (C:=Tryz.checked) F5 started (by kernel_rfl) Tryz.func3
    (ChangeSpec.witness6 (enc:=enc) (C:=Tryz.checked) false ⟨#[], #[.slice none 0 0, .slice none 0 0], []⟩ 8 (by kernel_rfl) (by kernel_rfl) (by kernel_rfl) (by kernel_rfl)) ?_
  intro W base args ds gs before hval0 hW hcnd _
  have hval:∀(j:Nat) t v,Tryz.f3.params[j]?=some t→args[j]?=some v→Value.okWide Tryz.prog W .any base t v:=hval0
  have hW' :=hW
  obtain ⟨p,q,hA0,hV,rfl,hfz,hnd⟩:=hW
  have hA:DataW.TrodAll enc Tryz.prog W 0 (fun _=>true) true Tryz.f3.params.toList args.toList ds p:=hA0
  rw [Tryz.params3] at hA hval
  obtain ⟨v0,vs0,d0,ds0,p0,q0,hargs,rfl,rfl,h0,r0⟩:=trodAll_cons hA
  obtain ⟨v1,vs1,d1,ds1,p1,q1,rfl,rfl,rfl,h1,r1⟩:=trodAll_cons r0
  obtain ⟨rfl,rfl,rfl⟩:=trodAll_nil r1
  obtain rfl:args= #[v0,v1]:=by cases args;simp_all
  obtain ⟨rfl,rfl⟩:=trodVars_none hV
  have lt0:∀x∈p0,x.block<W.heap.size:=by obtain ⟨m,hm⟩:=h0;exact DataW.trod_lt m _ _ _ hm
  have lt1:∀x∈p1,x.block<W.heap.size:=by obtain ⟨m,hm⟩:=h1;exact DataW.trod_lt m _ _ _ hm
  obtain ⟨l0,l0vr,l0a⟩:=qx (hval 0 22 v0 rfl rfl) h0
  obtain ⟨l1,l1vr,l1a⟩:=qx (hval 1 22 v1 rfl rfl) h1
  clear hA0 hval0
  refine (F4 l0 l1 l0a l1a _ _ W l0vr l1vr).mono fun e W' ⟨he,bel⟩=> ?_
  subst he
  exact ⟨_,rfl,_,_,_, [],_, [],hW',trodAll_mk1 (shut_bool Tryz.underlying4 _),(trodAll_cons_mk (Below.trod vn (by kernel_rfl) (of_decide_eq_true (by kernel_rfl)) h0 bel lt0) (trodAll_cons_mk (Below.trod vn (by kernel_rfl) (of_decide_eq_true (by kernel_rfl)) h1 bel lt1) trodAll_mk0)),rfl,Below.frame bel _,fun h=>by cases h⟩

theorem packAll_holds:Rows.PackAllSaid:=
  OpenClaim.holds_of_wide 3 Tryz.f3 rfl rfl rfl rfl rfl rfl rfl ⟨rfl,rfl,rfl,rfl,rfl⟩ rfl rfl rfl rfl rfl (by kernel_rfl) Tryz.func3 (by kernel_rfl)
    (of_decide_eq_true (by kernel_rfl)) (by unfold Func.isWrapper;first | (rw [if_pos (by decide+kernel)];kernel_rfl) | (rw [if_neg (by decide+kernel)];exact ⟨rfl,rfl⟩))
    (fun os started H enc _=>ug os started H enc)
#print axioms packAll_holds
end

end Go.Proofs.YtnfplefcghadfaaGreat