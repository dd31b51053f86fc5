/-Part 5 of the proof of packAll_holds:PqA1. No condition. -/
import Derived.Shelf.SlSortCmp.NoneTotal
import Derived.LaidHandle
import Derived.Test.YtnfplefcghadfaaGreatPz1
import Derived.Test.YtnfplefcghadfaaGreatPz2
import Derived.Test.YtnfplefcghadfaaGreatPz3
import Derived.Test.YtnfplefcghadfaaGreatPz4
set_option maxRecDepth 100000
set_option maxRecDepth 100000
--Po1
--Wire
namespace Go.Proofs.YtnfplefcghadfaaGreat
section
open Go.RowKit

theorem Hh:(Tryz.prog.info? 5).map (fun i=>(i.zero,i.size,i.bytes))=some (some (.int .u8 0),1,1):=by kernel_rfl

def dy (n size:Nat):List Nat:=(List.range size).map fun k=>n/2^(8*(size-1-k))%256

theorem CW (n size k:Nat) (h:k<size):(dy n size).take (k+1)=(dy n size).take k++ [n/2^(8*(size-1-k))%256]:=by
 rw [List.take_succ_eq_append_getElem (by simpa [dy] using h)]
 simp [dy]
theorem EU (n size:Nat):(dy n size).take size=dy n size:=List.take_of_length_le (by simp [dy])

set_option maxHeartbeats 400000 in
theorem A7 (b:Value) (nb:Nat) (bs:List Value) (h1:∀u∈bs,u.oneCell' =true) (n:Nat) (size:Nat) (hs:size≤8) (hnb:nb≤1099511627776) (w:World) (hb:Rd w 1 b nb bs):
  Calls Tryz.prog 102 #[b, .int .u64 n, .int .i64 size] w (Rets w fun v w' =>w'.ownsRow w.heap.size 5 1 v (nb+size) (bs++gH (dy n size))):=by
 obtain ⟨i0,hi,hz0,hz1,hz2⟩:=info_parts Hh
 have hb' :=hb
 obtain ⟨_,p,c,rfl,_,_,_,_⟩:=hb'
 have HB:=Lib.hid hb
 have H1:=Lib.hid h1
 clear hb h1
 rename_i z1 z2 z3 z4 z5
 clear z1 z3 z4 z5
 have hi' :=Lib.hid hi
 clear hi
 go_enter Tryz.func102,Tryz.ntmps102
 go_wp2_with (first | (at_make;refine Ei 5 w.heap.size i0 (.int .u8 0) 1 1 Tryz.underlying94 hi'.out hz0 hz1 hz2 nb (nb+size) .i64 .i64 _ _ (by rfl) (by rfl) rfl (by omega) (by omega) (by omega) (by unfold maxLen;omega) (Nat.le_refl _) (fun v1 w1 own1 g1 hv1=> ?_)) | (refine Ej w.heap.size 5 Tryz.underlying94 (by kernel_rfl) _ nb _ (by rfl) (by assumption) _ nb bs (by rfl) (HB.out.gr (by assumption)) H1.out (fun w2 own2 gb2=> ?_)))
 have gr2:=vP g1 (Nat.le_refl _) own1 gb2
 have own3:w2.ownsRow w.heap.size 5 1 v1 nb bs:=by
  have hl:=HB.out.len
  have e:List.take nb bs++List.drop nb (List.take (nb*1) (madeCells (Value.int IntKind.u8 0).cells ((nb+size)*1)).toList)=bs:=by
   rw [List.take_of_length_le (by omega),List.drop_eq_nil_of_le (by rw [List.length_take];omega),List.append_nil]
  rwa [e] at own2
 clear own2 gb2 own1 g1 hv1
 go_loopw [7,8] (fun v i wr=>∃j k:Nat,j+k=size∧i= .int .i64 ((j:Int)-1)∧wr.ownsRow w.heap.size 5 1 v (nb+k) (bs++gH ((dy n size).take k))∧Gr w wr) (fun _ i _=>(intOf i+1).toNat)
 case atStart=>exact ⟨size,0,rfl,rfl,by simpa [gH] using own3,gr2⟩
 case round=>
  obtain ⟨j,k,hk,rfl,hown,hgr⟩:=hrel
  have HO:=Lib.hid hown
  have HK:=Lib.hid hk
  have hks:k≤size:=by omega
  clear hown own3 hk
  cases j with
  | zero=>
   have e:k=size:=by have:=HK.out;omega
   subst e
   go_wp2
   go_ret
   refine Rets.mk hgr ?_
   have:=HO.out
   rwa [EU] at this
  | succ j=>
   have hj8:j<8:=by have:=HK.out;omega
   rw [show (((j+1:Nat):Int)-1)=(j:Int) by omega]
   go_wp2_with (at_builtin;go_loud (refine GX w.heap.size 5 i0 (.int .u8 0) 1 1 Tryz.underlying94 hi'.out hz0 hz1 hz2 rfl (by decide) _ (nb+k) _ (by rfl) (World.ownsRow.alloc HO.out _) _ 1 [_] (by rfl) (Rd.new _ [_] _ 1 1 rfl (by decide)) (by intro u hu;simp at hu;subst hu;rfl) (by unfold maxLen;omega) (by omega) (by have:=Gr.size hgr;simp;omega) (fun v1 w1 own1 gb1=> ?_)))
   go_roundw
   case rel=>
    refine ⟨j,k+1,by have:=HK.out;omega,rfl, ?_,vP (hgr.alloc _) (Nat.le_refl _) (HO.out.alloc _) gb1⟩
    have hk1:k<size:=by have:=HK.out;omega
    rw [CW n size k hk1,Eh,←List.append_assoc]
    have e:size-1-k=j:=by have:=HK.out;omega
    rw [e]
    exact own1
   case measure=>simp [intOf]

end
--MsA
section
open Go.RowKit

theorem nK (q:IntKind) (x y:Int):aG BinOp.eql (ar (.int q x) (.int q y))=decide (x=y):=by
 simp [aG,ar,ct,Bool.beq_eq_decide_eq]
theorem lg (q:IntKind) (x y:Int):aG BinOp.neq (ar (.int q x) (.int q y))= !decide (x=y):=by
 simp [aG,ar,ct,Bool.beq_eq_decide_eq]
theorem ko:∃inf:TypeInfo,Tryz.prog.info? 5=some inf∧inf.size=1∧inf.bytes+1=2∧inf.zero=some (.int .u8 0):=
 ⟨(Tryz.prog.info? 5).getD default,by kernel_rfl,by kernel_rfl,by kernel_rfl,by kernel_rfl⟩
section
variable {x i m:Operand} {l:List (Nat × TV)} {b:Bs} {tok:Tok} {k k' :IntKind} {z z' :Int} {e:List TV} {n n' :Nat}
theorem oH (hx:bb ae l x= .vec 1 b tok) (hz:bb ae l i= .val (.int k z)) (h0:0≤z) (hn:z.toNat=n) (he:n≤b.length):ax Tryz.prog ae (.slice 94 x none (some i) none) l (.vec 1 (b.take n) .none):=by
 subst hn
 obtain ⟨inf,i1,i2,_,_⟩:=ko
 have h:=wN (inf:=inf) (P:=Tryz.prog) (G:=ae) (x:=x) (i:=i) (l:=l) (es:=b) (tok:=tok) Tryz.underlying94 i1 (by rw [i2];exact hx) hz h0 he
 rw [i2] at h
 exact h
theorem pC {ro:Nat} {T T1:VT} {s:Operand} {es es2:Bs} {bn:Bool} {k n:Nat} (hs:dW T 1 (bb ae l s)=some (es,k,n,bn,T1)) (hx:fp 1 (bb ae l x)=some es2) (hb:es.length+es2.length≤70368744177664):
    aB Tryz.prog ae ro T (.call ⟨.builtin .append, #[s,x], #[94,94]⟩) l (.vec 1 (es++es2) (.tail k (n+es2.length))) {T1 with tails:=T1.tails.set k (n+es2.length,1,bn)}:=by
  obtain ⟨inf,i1,i2,i3,i4⟩:=ko
  have h:=fG (inf:=inf) (P:=Tryz.prog) (G:=ae) (ro:=ro) (T:=T) (T1:=T1) (t:=94) (tx:=94) (s:=s) (x:=x) (l:=l) (es:=es) (es2:=es2) (k:=k) (n:=n) (bn:=bn) Tryz.underlying94 i1 i4 (by rw [i2];rfl) (by rw [i2];decide) (by kernel_rfl) (by rw [i2];exact hs) (by rw [i2];exact hx)
    (by rw [i3];omega)
  rw [i2] at h
  exact h
end
end
--MsB
section
open Go.RowKit

theorem fj {z:Int} (h0:-1000000000000000≤z) (h1:z≤1000000000000000):IntKind.i64.wrap z=z:=by
 simp only [IntKind.wrap,IntKind.bits,IntKind.signed];simp;omega
end
--MbA
section
open Go.RowKit

abbrev eG:=102
def CX (k n:Nat):List Int:=(dy n k).map fun z:Nat=>(z:Int)
def qd (k n:Nat):Bs:=bV (CX k n)
theorem yW (k n:Nat):(qd k n).length=k:=by simp [qd,bV,CX,dy]
theorem JW (k n:Nat):∀z∈CX k n,0≤z∧z<256:=by
 intro z hz
 obtain ⟨m,hm,rfl⟩:=List.mem_map.1 hz
 obtain ⟨i,_,rfl⟩:=List.mem_map.1 hm
 have:n/2^(8*(k-1-i))%256<256:=Nat.mod_lt _ (by decide)
 omega
theorem wU {k n:Nat} (hk:k≤8):IsB (qd k n):=⟨⟨_,rfl,JW k n⟩,by rw [yW];omega⟩
theorem su (k n:Nat):gH (dy n k)=eR (CX k n):=by simp [gH,eR,CX,Function.comp_def]
theorem Hi {b:Bs} (hb:IsB b) (hne:b≠ []) (tok:Tok) {n k:Nat} (hk:k≤8):VCx Tryz.prog ae 0 eG [.vec 1 b tok, .val (.int .u64 n), .val (.int .i64 k)] ⟨[], []⟩ fun x T' =>x= .vec 1 (b++qd k n) .none∧T' =⟨[], []⟩:=by
  obtain ⟨⟨l,rfl,hl⟩,hlen⟩:=hb
  have hne2:l≠ []:=fun h=>hne (by rw [h];rfl)
  have hll:(bV l).length=l.length:=by simp [bV]
  rw [hll] at hlen
  have hvs:(eR l++gH (dy n k)).length=l.length+k:=by simp [eR,gH,dy]
  have h:=VCx.ofOwn (P:=Tryz.prog) (G:=ae) (f:=eG) (xs:= [.vec 1 (bV l) tok, .val (.int .u64 n), .val (.int .i64 k)]) (ty:=5) (vs:=eR l++gH (dy n k)) (fun v hv=> ?_) (by rw [hvs];unfold maxLen;omega) (fun g w us hx=> ?_)
  · refine h.mono ?_
    rintro x T' ⟨rfl,rfl⟩
    refine ⟨?_,rfl⟩
    rw [List.map_append,←iH,su,←iH];rfl
  · rcases List.mem_append.1 hv with hv | hv
    · obtain ⟨z,_,rfl⟩:=List.mem_map.1 hv;rfl
    · obtain ⟨z,_,rfl⟩:=List.mem_map.1 hv;rfl
  · match us,hx.1 with
    | [v,u1,u2],_=>
      have hv:=hx.2 0 _ v rfl rfl
      obtain rfl:=(hx.2 1 _ u1 rfl rfl).val_inv
      obtain rfl:=(hx.2 2 _ u2 rfl rfl).val_inv
      have:=A7 v l.length (eR l) (fun u hu=>by obtain ⟨z,_,rfl⟩:=List.mem_map.1 hu;rfl) n k hk (by omega) w (CS hv hne2)
      rw [hvs];exact this
theorem EV {n k:Nat} (hk:k≤8):VCx Tryz.prog ae 0 eG [.val (.slice none 0 0), .val (.int .u64 n), .val (.int .i64 k)] ⟨[], []⟩ fun x T' =>x= .vec 1 (qd k n) .none∧T' =⟨[], []⟩:=by
 have hvs:(gH (dy n k)).length=k:=by simp [gH,dy]
 have h:=VCx.ofRetsT (P:=Tryz.prog) (G:=ae) (f:=eG) (xs:= [.val (.slice none 0 0), .val (.int .u64 n), .val (.int .i64 k)]) (us:= [.slice none 0 0, .int .u64 n, .int .i64 k]) rfl (ty:=5) (vs:=gH (dy n k)) (fun v hv=>by obtain ⟨z,_,rfl⟩:=List.mem_map.1 hv;rfl) (by rw [hvs];unfold maxLen;omega) (fun w=>by
  have:=A7 (.slice none 0 0) 0 [] (by simp) n k hk (by omega) w (Rd.nil w 1)
  rw [hvs]
  simpa using this)
 refine h.mono ?_
 rintro x T' ⟨rfl,rfl⟩
 refine ⟨?_,rfl⟩
 rw [su,←iH];rfl
end
--MsP
section
open Go.RowKit

def qe (n:Int):Prop:=0≤n∧n≤32
def wV (n:Int):Int:=4294967296-2^(32-n).toNat
def CY (a n:Int):Int:=IntKind.wrap .u32 (BitVec.toNat (BitVec.ofInt (IntKind.bits .u32) a&&&BitVec.ofInt (IntKind.bits .u32) (wV n)):Nat)

abbrev cu:=72
abbrev qQ:=49
def JX:aM:=fun _ ys T K=>match ys with
 | [.val (.int .i64 n)]=>qe n∧K (.val (.int .u32 (wV n))) T
 | _=>False
theorem Hj (Q:TV→VT→Prop):aq Tryz.prog ae aR aY 300 aD 0 cu [.val (.int .i64 0)] ⟨[], []⟩ Q=
Q (.val (.int .u32 0)) ⟨[], []⟩:=by kernel_rfl
theorem Hk (Q:TV→VT→Prop):aq Tryz.prog ae aR aY 300 aD 0 cu [.val (.int .i64 1)] ⟨[], []⟩ Q=
Q (.val (.int .u32 2147483648)) ⟨[], []⟩:=by kernel_rfl
theorem Hl (Q:TV→VT→Prop):aq Tryz.prog ae aR aY 300 aD 0 cu [.val (.int .i64 2)] ⟨[], []⟩ Q=
Q (.val (.int .u32 3221225472)) ⟨[], []⟩:=by kernel_rfl
theorem Hm (Q:TV→VT→Prop):aq Tryz.prog ae aR aY 300 aD 0 cu [.val (.int .i64 3)] ⟨[], []⟩ Q=
Q (.val (.int .u32 3758096384)) ⟨[], []⟩:=by kernel_rfl
theorem Hn (Q:TV→VT→Prop):aq Tryz.prog ae aR aY 300 aD 0 cu [.val (.int .i64 4)] ⟨[], []⟩ Q=
Q (.val (.int .u32 4026531840)) ⟨[], []⟩:=by kernel_rfl
theorem Ho (Q:TV→VT→Prop):aq Tryz.prog ae aR aY 300 aD 0 cu [.val (.int .i64 5)] ⟨[], []⟩ Q=
Q (.val (.int .u32 4160749568)) ⟨[], []⟩:=by kernel_rfl
theorem Hp (Q:TV→VT→Prop):aq Tryz.prog ae aR aY 300 aD 0 cu [.val (.int .i64 6)] ⟨[], []⟩ Q=
Q (.val (.int .u32 4227858432)) ⟨[], []⟩:=by kernel_rfl
theorem Hq (Q:TV→VT→Prop):aq Tryz.prog ae aR aY 300 aD 0 cu [.val (.int .i64 7)] ⟨[], []⟩ Q=
Q (.val (.int .u32 4261412864)) ⟨[], []⟩:=by kernel_rfl
theorem Hr (Q:TV→VT→Prop):aq Tryz.prog ae aR aY 300 aD 0 cu [.val (.int .i64 8)] ⟨[], []⟩ Q=
Q (.val (.int .u32 4278190080)) ⟨[], []⟩:=by kernel_rfl
theorem Hs (Q:TV→VT→Prop):aq Tryz.prog ae aR aY 300 aD 0 cu [.val (.int .i64 9)] ⟨[], []⟩ Q=
Q (.val (.int .u32 4286578688)) ⟨[], []⟩:=by kernel_rfl
theorem EW (Q:TV→VT→Prop):aq Tryz.prog ae aR aY 300 aD 0 cu [.val (.int .i64 10)] ⟨[], []⟩ Q=
Q (.val (.int .u32 4290772992)) ⟨[], []⟩:=by kernel_rfl
theorem EX (Q:TV→VT→Prop):aq Tryz.prog ae aR aY 300 aD 0 cu [.val (.int .i64 11)] ⟨[], []⟩ Q=
Q (.val (.int .u32 4292870144)) ⟨[], []⟩:=by kernel_rfl
theorem EY (Q:TV→VT→Prop):aq Tryz.prog ae aR aY 300 aD 0 cu [.val (.int .i64 12)] ⟨[], []⟩ Q=
Q (.val (.int .u32 4293918720)) ⟨[], []⟩:=by kernel_rfl
theorem EZ (Q:TV→VT→Prop):aq Tryz.prog ae aR aY 300 aD 0 cu [.val (.int .i64 13)] ⟨[], []⟩ Q=
Q (.val (.int .u32 4294443008)) ⟨[], []⟩:=by kernel_rfl
theorem E0 (Q:TV→VT→Prop):aq Tryz.prog ae aR aY 300 aD 0 cu [.val (.int .i64 14)] ⟨[], []⟩ Q=
Q (.val (.int .u32 4294705152)) ⟨[], []⟩:=by kernel_rfl
theorem E1 (Q:TV→VT→Prop):aq Tryz.prog ae aR aY 300 aD 0 cu [.val (.int .i64 15)] ⟨[], []⟩ Q=
Q (.val (.int .u32 4294836224)) ⟨[], []⟩:=by kernel_rfl
theorem E2 (Q:TV→VT→Prop):aq Tryz.prog ae aR aY 300 aD 0 cu [.val (.int .i64 16)] ⟨[], []⟩ Q=
Q (.val (.int .u32 4294901760)) ⟨[], []⟩:=by kernel_rfl
theorem E3 (Q:TV→VT→Prop):aq Tryz.prog ae aR aY 300 aD 0 cu [.val (.int .i64 17)] ⟨[], []⟩ Q=
Q (.val (.int .u32 4294934528)) ⟨[], []⟩:=by kernel_rfl
theorem E4 (Q:TV→VT→Prop):aq Tryz.prog ae aR aY 300 aD 0 cu [.val (.int .i64 18)] ⟨[], []⟩ Q=
Q (.val (.int .u32 4294950912)) ⟨[], []⟩:=by kernel_rfl
theorem E5 (Q:TV→VT→Prop):aq Tryz.prog ae aR aY 300 aD 0 cu [.val (.int .i64 19)] ⟨[], []⟩ Q=
Q (.val (.int .u32 4294959104)) ⟨[], []⟩:=by kernel_rfl
theorem E6 (Q:TV→VT→Prop):aq Tryz.prog ae aR aY 300 aD 0 cu [.val (.int .i64 20)] ⟨[], []⟩ Q=
Q (.val (.int .u32 4294963200)) ⟨[], []⟩:=by kernel_rfl
theorem E7 (Q:TV→VT→Prop):aq Tryz.prog ae aR aY 300 aD 0 cu [.val (.int .i64 21)] ⟨[], []⟩ Q=
Q (.val (.int .u32 4294965248)) ⟨[], []⟩:=by kernel_rfl
theorem E8 (Q:TV→VT→Prop):aq Tryz.prog ae aR aY 300 aD 0 cu [.val (.int .i64 22)] ⟨[], []⟩ Q=
Q (.val (.int .u32 4294966272)) ⟨[], []⟩:=by kernel_rfl
theorem E9 (Q:TV→VT→Prop):aq Tryz.prog ae aR aY 300 aD 0 cu [.val (.int .i64 23)] ⟨[], []⟩ Q=
Q (.val (.int .u32 4294966784)) ⟨[], []⟩:=by kernel_rfl
theorem Fa (Q:TV→VT→Prop):aq Tryz.prog ae aR aY 300 aD 0 cu [.val (.int .i64 24)] ⟨[], []⟩ Q=
Q (.val (.int .u32 4294967040)) ⟨[], []⟩:=by kernel_rfl
theorem Fb (Q:TV→VT→Prop):aq Tryz.prog ae aR aY 300 aD 0 cu [.val (.int .i64 25)] ⟨[], []⟩ Q=
Q (.val (.int .u32 4294967168)) ⟨[], []⟩:=by kernel_rfl
theorem Fc (Q:TV→VT→Prop):aq Tryz.prog ae aR aY 300 aD 0 cu [.val (.int .i64 26)] ⟨[], []⟩ Q=
Q (.val (.int .u32 4294967232)) ⟨[], []⟩:=by kernel_rfl
theorem Fd (Q:TV→VT→Prop):aq Tryz.prog ae aR aY 300 aD 0 cu [.val (.int .i64 27)] ⟨[], []⟩ Q=
Q (.val (.int .u32 4294967264)) ⟨[], []⟩:=by kernel_rfl
theorem Fe (Q:TV→VT→Prop):aq Tryz.prog ae aR aY 300 aD 0 cu [.val (.int .i64 28)] ⟨[], []⟩ Q=
Q (.val (.int .u32 4294967280)) ⟨[], []⟩:=by kernel_rfl
theorem Ff (Q:TV→VT→Prop):aq Tryz.prog ae aR aY 300 aD 0 cu [.val (.int .i64 29)] ⟨[], []⟩ Q=
Q (.val (.int .u32 4294967288)) ⟨[], []⟩:=by kernel_rfl
theorem Fg (Q:TV→VT→Prop):aq Tryz.prog ae aR aY 300 aD 0 cu [.val (.int .i64 30)] ⟨[], []⟩ Q=
Q (.val (.int .u32 4294967292)) ⟨[], []⟩:=by kernel_rfl
theorem Fh (Q:TV→VT→Prop):aq Tryz.prog ae aR aY 300 aD 0 cu [.val (.int .i64 31)] ⟨[], []⟩ Q=
Q (.val (.int .u32 4294967294)) ⟨[], []⟩:=by kernel_rfl
theorem Fi (Q:TV→VT→Prop):aq Tryz.prog ae aR aY 300 aD 0 cu [.val (.int .i64 32)] ⟨[], []⟩ Q=
Q (.val (.int .u32 4294967295)) ⟨[], []⟩:=by kernel_rfl
theorem CZ (a n:Int) (Q:TV→VT→Prop):aq Tryz.prog ae (aw [(cu,JX)]) (aA [(999999, .dead,none)]) 300 aD 0 qQ [.agg [.val (.int .u32 a), .val (.int .i64 n)]] ⟨[], []⟩ Q=
 (qe (if (32:Int)<if (0:Int)>n then (0:Int) else n then (32:Int) else if (0:Int)>n then (0:Int) else n)∧
 Q (.agg [(.val (.int .u32 (IntKind.wrap IntKind.u32 (↑(BitVec.toNat (BitVec.ofInt (IntKind.bits IntKind.u32) a&&&BitVec.ofInt (IntKind.bits IntKind.u32) (wV (if (32:Int)<if (0:Int)>n then (0:Int) else n then (32:Int) else if (0:Int)>n then (0:Int) else n)))):Int)))),(.val (.int .i64 (if (32:Int)<if (0:Int)>n then (0:Int) else n then (32:Int) else if (0:Int)>n then (0:Int) else n)))]) ⟨[(.cells [(.val (.int .u32 (a))),(.val (.int .i64 (n)))]),(.cells [(.val (.int .u32 (IntKind.wrap IntKind.u32 (↑(BitVec.toNat (BitVec.ofInt (IntKind.bits IntKind.u32) a&&&BitVec.ofInt (IntKind.bits IntKind.u32) (wV (if (32:Int)<if (0:Int)>n then (0:Int) else n then (32:Int) else if (0:Int)>n then (0:Int) else n)))):Int)))),(.val (.int .i64 (if (32:Int)<if (0:Int)>n then (0:Int) else n then (32:Int) else if (0:Int)>n then (0:Int) else n)))])], []⟩):=by kernel_rfl
end
--MsQ
section
open Go.RowKit

theorem C0 {n:Int} (h:qe n):n=0∨n=1∨n=2∨n=3∨n=4∨n=5∨n=6∨n=7∨n=8∨n=9∨n=10∨n=11∨n=12∨n=13∨n=14∨n=15∨n=16∨n=17∨n=18∨n=19∨n=20∨n=21∨n=22∨n=23∨n=24∨n=25∨n=26∨n=27∨n=28∨n=29∨n=30∨n=31∨n=32:=by
 obtain ⟨h0,h1⟩:=h;omega
theorem Ht {n:Int} (h:qe n):VCx Tryz.prog ae 0 cu [.val (.int .i64 n)] ⟨[], []⟩ fun x T' =>x= .val (.int .u32 (wV n))∧T' =⟨[], []⟩:=by
 rcases C0 h with rfl | rfl | rfl | rfl | rfl | rfl | rfl | rfl | rfl | rfl | rfl | rfl | rfl | rfl | rfl | rfl | rfl | rfl | rfl | rfl | rfl | rfl | rfl | rfl | rfl | rfl | rfl | rfl | rfl | rfl | rfl | rfl | rfl
 ·exact ak ac aa ai ah (Hj _) ⟨rfl,rfl⟩
 ·exact ak ac aa ai ah (Hk _) ⟨rfl,rfl⟩
 ·exact ak ac aa ai ah (Hl _) ⟨rfl,rfl⟩
 ·exact ak ac aa ai ah (Hm _) ⟨rfl,rfl⟩
 ·exact ak ac aa ai ah (Hn _) ⟨rfl,rfl⟩
 ·exact ak ac aa ai ah (Ho _) ⟨rfl,rfl⟩
 ·exact ak ac aa ai ah (Hp _) ⟨rfl,rfl⟩
 ·exact ak ac aa ai ah (Hq _) ⟨rfl,rfl⟩
 ·exact ak ac aa ai ah (Hr _) ⟨rfl,rfl⟩
 ·exact ak ac aa ai ah (Hs _) ⟨rfl,rfl⟩
 ·exact ak ac aa ai ah (EW _) ⟨rfl,rfl⟩
 ·exact ak ac aa ai ah (EX _) ⟨rfl,rfl⟩
 ·exact ak ac aa ai ah (EY _) ⟨rfl,rfl⟩
 ·exact ak ac aa ai ah (EZ _) ⟨rfl,rfl⟩
 ·exact ak ac aa ai ah (E0 _) ⟨rfl,rfl⟩
 ·exact ak ac aa ai ah (E1 _) ⟨rfl,rfl⟩
 ·exact ak ac aa ai ah (E2 _) ⟨rfl,rfl⟩
 ·exact ak ac aa ai ah (E3 _) ⟨rfl,rfl⟩
 ·exact ak ac aa ai ah (E4 _) ⟨rfl,rfl⟩
 ·exact ak ac aa ai ah (E5 _) ⟨rfl,rfl⟩
 ·exact ak ac aa ai ah (E6 _) ⟨rfl,rfl⟩
 ·exact ak ac aa ai ah (E7 _) ⟨rfl,rfl⟩
 ·exact ak ac aa ai ah (E8 _) ⟨rfl,rfl⟩
 ·exact ak ac aa ai ah (E9 _) ⟨rfl,rfl⟩
 ·exact ak ac aa ai ah (Fa _) ⟨rfl,rfl⟩
 ·exact ak ac aa ai ah (Fb _) ⟨rfl,rfl⟩
 ·exact ak ac aa ai ah (Fc _) ⟨rfl,rfl⟩
 ·exact ak ac aa ai ah (Fd _) ⟨rfl,rfl⟩
 ·exact ak ac aa ai ah (Fe _) ⟨rfl,rfl⟩
 ·exact ak ac aa ai ah (Ff _) ⟨rfl,rfl⟩
 ·exact ak ac aa ai ah (Fg _) ⟨rfl,rfl⟩
 ·exact ak ac aa ai ah (Fh _) ⟨rfl,rfl⟩
 ·exact ak ac aa ai ah (Fi _) ⟨rfl,rfl⟩
theorem yX:∀ro ys T K,JX ro ys T K→VCx Tryz.prog ae ro cu ys T K:=by
 intro ro ys T K hw
 unfold JX at hw
 split at hw
 ·exact VCx.liftPure ap (Ht hw.1) rfl (fun _ _=>rfl) hw.2
 ·exact hw.elim
theorem Hu (a:Int) {n:Int} (h:qe n):VCx Tryz.prog ae 0 qQ [.agg [.val (.int .u32 a), .val (.int .i64 n)]] ⟨[], []⟩ fun x T' =>x= .agg [.val (.int .u32 (CY a n)), .val (.int .i64 n)]∧T' =⟨[], []⟩:=by
 refine VCx.keepQ 0 0 (Nat.le_refl _) (Nat.le_refl _) (ak ac aa (aE fun p hp=>by obtain rfl:=List.mem_singleton.1 hp;exact yX) ah (CZ a n _) ?_)
 have e:(if (32:Int)<if (0:Int)>n then (0:Int) else n then (32:Int) else if (0:Int)>n then (0:Int) else n)=n:=by
  obtain ⟨h0,h1⟩:=h
  rw [if_neg (show ¬(0:Int)>n by omega),if_neg (by omega)]
 rw [e]
 exact ⟨h,rfl,rfl⟩
end
--MsR
section
open Go.RowKit

def cj (p:Int × Int):List TV:= [.val (.int .u32 p.1), .val (.int .i64 p.2)]
end
--MsS
section
open Go.RowKit

theorem qR:∃inf:TypeInfo,Tryz.prog.info? 48=some inf∧inf.size=2∧inf.bytes+1≤1000∧inf.zero=some (.agg #[.int .u32 0, .int .i64 0]):=
 ⟨(Tryz.prog.info? 48).getD default,by kernel_rfl,by kernel_rfl,Nat.le_of_ble_eq_true (by kernel_rfl),by kernel_rfl⟩
theorem kr (f g:Nat→Option Nat):∀l:List (Int × Int),bG f g (l.map cj)=l.map cj
 | []=>rfl
 | a::l=>by simp only [List.map_cons,bG,kr f g l];rfl
end
--MsX
section
open Go.RowKit

def o1 (B:Bs):Bs:=NP (1:Nat) B 0
def g1 (B:Bs):Int:=JT (1:Nat) B 0
def m1 (B:Bs):Int:=NQ (1:Nat) B 0 0
def o2 (B:Bs):Bs:=NP (2:Nat) (o1 B) (g1 B)
def g2 (B:Bs):Int:=JT (2:Nat) (o1 B) (g1 B)
def m2 (B:Bs):Int:=NQ (2:Nat) B (m1 B) (g1 B)
def g3 (B:Bs):Int:=JT (2:Nat) (o2 B) (g2 B)
end
--MsSa
section
open Go.RowKit

def mo (z:Int):Bool:=aG BinOp.neq (ar (Value.int IntKind.i64 (IntKind.wrap IntKind.i64 (BitVec.toNat (BitVec.ofInt (IntKind.bits IntKind.i64) z&&&BitVec.ofInt (IntKind.bits IntKind.i64) (16:Int)):Nat))) (Value.int IntKind.i64 (0:Int)))
end
--MsPt
section
open Go.RowKit

def iT (z:Int):List TV:= [.val (.int .i64 z)]
def iV (l:List Int):Bs:=l.map iT
end
--MsPq
section
open Go.RowKit

theorem dv (l:List Int):(iV l).length=l.length:=List.length_map _
theorem dw (f g:Nat→Option Nat):∀l:List Int,bG f g (iV l)=iV l
 | []=>rfl
 | a::l=>by
  have h:=dw f g l
  simp only [iV,List.map_cons,bG] at h ⊢
  rw [h];rfl
theorem Fj:∃inf:TypeInfo,Tryz.prog.info? 3=some inf∧inf.size=1∧inf.bytes+1≤1000∧inf.zero=some (.int .i64 0):=
 ⟨(Tryz.prog.info? 3).getD default,by kernel_rfl,by kernel_rfl,Nat.le_of_ble_eq_true (by kernel_rfl),by kernel_rfl⟩
theorem gD {x i:Operand} {l:List (Nat × TV)} {b:Bs} {tok:Tok} {k:IntKind} {z:Int} {e:List TV} (hx:bb ae l x= .vec 1 b tok) (hz:bb ae l i= .val (.int k z)) (h0:0≤z) (he:b[z.toNat]?=some e):
  ax Tryz.prog ae (.indexAddr 33 x i) l (.elt e):=by
 obtain ⟨inf,i1,i2,_,_⟩:=Fj
 exact gp (inf:=inf) Tryz.underlying33 i1 (by rw [i2];exact hx) hz h0 he
end
--MsTk
section
open Go.RowKit

abbrev A8:=50
def m7 (a:Int):Bool:=aG BinOp.neq (ar (Value.int IntKind.u32 a) (Value.int IntKind.u32 (0:Int)))&&(aG BinOp.neq (ar (Value.int IntKind.u32 a) (Value.int IntKind.u32 (4294967295:Int)))&&(aG BinOp.neq (ar (Value.int IntKind.u32 (Int.fdiv a ((2:Int)^min (Int.toNat (24:Int)) (IntKind.bits IntKind.u32)))) (Value.int IntKind.u32 (127:Int)))&&aG BinOp.neq (ar (Value.int IntKind.u32 (Int.fdiv a ((2:Int)^min (Int.toNat (29:Int)) (IntKind.bits IntKind.u32)))) (Value.int IntKind.u32 (7:Int)))))
def A9:aM:=fun _ ys T K=>match ys with
 | [.val (.int .u32 a)]=>K (.val (.bool (m7 a))) T
 | _=>False
def tK (fl t:Int) (v:Bs):TV:= .agg [.val (.int .i64 fl), .val (.int .i64 t), .vec 1 v .none]
theorem JY (a:Int) (Q:TV→VT→Prop):aq Tryz.prog ae aR aY 300 aD 0 A8 [.val (.int .u32 a)] ⟨[], []⟩ Q=
 (bif aG BinOp.neq (ar (Value.int IntKind.u32 a) (Value.int IntKind.u32 (0:Int)))
 then (bif aG BinOp.neq (ar (Value.int IntKind.u32 a) (Value.int IntKind.u32 (4294967295:Int)))
 then (bif aG BinOp.neq (ar (Value.int IntKind.u32 (Int.fdiv a ((2:Int)^min (Int.toNat (24:Int)) (IntKind.bits IntKind.u32)))) (Value.int IntKind.u32 (127:Int)))
 then Q (.val (.bool (aG BinOp.neq (ar (Value.int IntKind.u32 (Int.fdiv a ((2:Int)^min (Int.toNat (29:Int)) (IntKind.bits IntKind.u32)))) (Value.int IntKind.u32 (7:Int)))))) ⟨[], []⟩
 else Q (.val (.bool false)) ⟨[], []⟩)
 else Q (.val (.bool false)) ⟨[], []⟩)
 else Q (.val (.bool false)) ⟨[], []⟩):=by kernel_rfl
end
--MsTl
section
open Go.RowKit

theorem Hv (a:Int):VCx Tryz.prog ae 0 A8 [.val (.int .u32 a)] ⟨[], []⟩ fun x T' =>x= .val (.bool (m7 a))∧T' =⟨[], []⟩:=by
 refine ak ac aa ai ah (JY a _) ?_
 unfold m7
 refine aF (fun c1=> ?_) (fun c1=> ?_)
 ·refine aF (fun c2=> ?_) (fun c2=> ?_)
  ·refine aF (fun c3=> ?_) (fun c3=> ?_)
   ·rw [c1,c2,c3,Bool.true_and,Bool.true_and,Bool.true_and];exact ⟨rfl,rfl⟩
   ·rw [c1,c2,c3,Bool.true_and,Bool.true_and,Bool.false_and];exact ⟨rfl,rfl⟩
  ·rw [c1,c2,Bool.true_and,Bool.false_and];exact ⟨rfl,rfl⟩
 ·rw [c1,Bool.false_and];exact ⟨rfl,rfl⟩
theorem Hw {f:FuncId} (h:∀a,VCx Tryz.prog ae 0 f [.val (.int .u32 a)] ⟨[], []⟩ fun x T' =>x= .val (.bool (m7 a))∧T' =⟨[], []⟩):∀ro ys T K,A9 ro ys T K→VCx Tryz.prog ae ro f ys T K:=by
 intro ro ys T K hw
 unfold A9 at hw
 split at hw
 ·exact VCx.liftPure ap (h _) rfl (fun _ _=>rfl) hw
 ·exact hw.elim
end
--MsRb
section
open Go.RowKit

abbrev qS:=103
def M4 (W:List TV) (T:VT):VT:=(T.kill (T.objs.length-1)).newRow ((match T.objs[T.objs.length-1]? with
 | some (.row cs)=>cs
 | _=> [])++W)
theorem Hx (fl t:Int) (Q:TV→VT→Prop):aq Tryz.prog ae aR (aA [(999999, .dead,none)]) 300 aD 0 qS [tK fl t []] ⟨[], []⟩ Q=
 (bif aG BinOp.neq (ar (Value.int IntKind.i64 (IntKind.wrap IntKind.i64 (↑(BitVec.toNat (BitVec.ofInt (IntKind.bits IntKind.i64) fl&&&BitVec.ofInt (IntKind.bits IntKind.i64) (16:Int))):Int))) (Value.int IntKind.i64 (0:Int)))
 then Q (.row 1 7 0 4) ⟨[(.cells [(.val (.int .i64 (fl))),(.val (.int .i64 (t))),(.vec 1 [] .none)]), .gone,(.row [(.val (.int .u8 (IntKind.wrap IntKind.u8 (Int.fdiv (IntKind.wrap IntKind.u64 fl) ((2:Int)^min (Int.toNat (IntKind.wrap IntKind.i64 ((8:Int)*IntKind.wrap IntKind.i64 ((1:Int)-(1:Int))))) (IntKind.bits IntKind.u64))))))]), .gone,(.row [(.val (.int .u8 (IntKind.wrap IntKind.u8 (Int.fdiv (IntKind.wrap IntKind.u64 fl) ((2:Int)^min (Int.toNat (IntKind.wrap IntKind.i64 ((8:Int)*IntKind.wrap IntKind.i64 ((1:Int)-(1:Int))))) (IntKind.bits IntKind.u64)))))),(.val (.int .u8 (IntKind.wrap IntKind.u8 (Int.fdiv (IntKind.wrap IntKind.u64 t) ((2:Int)^min (Int.toNat (IntKind.wrap IntKind.i64 ((8:Int)*IntKind.wrap IntKind.i64 ((1:Int)-(1:Int))))) (IntKind.bits IntKind.u64))))))]), .gone, .gone,(.row [(.val (.int .u8 (IntKind.wrap IntKind.u8 (Int.fdiv (IntKind.wrap IntKind.u64 fl) ((2:Int)^min (Int.toNat (IntKind.wrap IntKind.i64 ((8:Int)*IntKind.wrap IntKind.i64 ((1:Int)-(1:Int))))) (IntKind.bits IntKind.u64)))))),(.val (.int .u8 (IntKind.wrap IntKind.u8 (Int.fdiv (IntKind.wrap IntKind.u64 t) ((2:Int)^min (Int.toNat (IntKind.wrap IntKind.i64 ((8:Int)*IntKind.wrap IntKind.i64 ((1:Int)-(1:Int))))) (IntKind.bits IntKind.u64)))))),(.val (.int .u8 0)),(.val (.int .u8 0))])], []⟩
 else Q (.row 1 6 0 3) ⟨[(.cells [(.val (.int .i64 (fl))),(.val (.int .i64 (t))),(.vec 1 [] .none)]), .gone,(.row [(.val (.int .u8 (IntKind.wrap IntKind.u8 (Int.fdiv (IntKind.wrap IntKind.u64 fl) ((2:Int)^min (Int.toNat (IntKind.wrap IntKind.i64 ((8:Int)*IntKind.wrap IntKind.i64 ((1:Int)-(1:Int))))) (IntKind.bits IntKind.u64))))))]), .gone,(.row [(.val (.int .u8 (IntKind.wrap IntKind.u8 (Int.fdiv (IntKind.wrap IntKind.u64 fl) ((2:Int)^min (Int.toNat (IntKind.wrap IntKind.i64 ((8:Int)*IntKind.wrap IntKind.i64 ((1:Int)-(1:Int))))) (IntKind.bits IntKind.u64)))))),(.val (.int .u8 (IntKind.wrap IntKind.u8 (Int.fdiv (IntKind.wrap IntKind.u64 t) ((2:Int)^min (Int.toNat (IntKind.wrap IntKind.i64 ((8:Int)*IntKind.wrap IntKind.i64 ((1:Int)-(1:Int))))) (IntKind.bits IntKind.u64))))))]), .gone,(.row [(.val (.int .u8 (IntKind.wrap IntKind.u8 (Int.fdiv (IntKind.wrap IntKind.u64 fl) ((2:Int)^min (Int.toNat (IntKind.wrap IntKind.i64 ((8:Int)*IntKind.wrap IntKind.i64 ((1:Int)-(1:Int))))) (IntKind.bits IntKind.u64)))))),(.val (.int .u8 (IntKind.wrap IntKind.u8 (Int.fdiv (IntKind.wrap IntKind.u64 t) ((2:Int)^min (Int.toNat (IntKind.wrap IntKind.i64 ((8:Int)*IntKind.wrap IntKind.i64 ((1:Int)-(1:Int))))) (IntKind.bits IntKind.u64)))))),(.val (.int .u8 0))])], []⟩):=by kernel_rfl
theorem JZ (fl t:Int) (v w:Bs) (W:List TV) (K N:Nat) (Q:TV→VT→Prop):aq Tryz.prog ae aR (aA [(999999, .dead,none),(33, .vec 1 w .none,none),(34, .row 1 K 0 N,some (M4 W))]) 300 aD 0 qS [tK fl t v] ⟨[], []⟩ Q=
 (bif aG BinOp.neq (ar (Value.int IntKind.i64 (IntKind.wrap IntKind.i64 (↑(BitVec.toNat (BitVec.ofInt (IntKind.bits IntKind.i64) fl&&&BitVec.ofInt (IntKind.bits IntKind.i64) (16:Int))):Int))) (Value.int IntKind.i64 (0:Int)))
 then (ax Tryz.prog (fun _=> .none) (.slice 94 (.tmp 31) .none (.some (.tmp 32)) .none) [(31,(.vec 1 (v) .none)),(32,(.val (.int .i64 (if (65535:Int)<(↑(List.length v):Int) then (65535:Int) else (↑(List.length v):Int)))))] (.vec 1 (w) .none)∧
 (aB Tryz.prog (fun _=> .none) 0 ⟨[(.cells [(.val (.int .i64 (fl))),(.val (.int .i64 (t))),(.vec 1 (v) .none)]), .gone,(.row [(.val (.int .u8 (IntKind.wrap IntKind.u8 (Int.fdiv (IntKind.wrap IntKind.u64 fl) ((2:Int)^min (Int.toNat (IntKind.wrap IntKind.i64 ((8:Int)*IntKind.wrap IntKind.i64 ((1:Int)-(1:Int))))) (IntKind.bits IntKind.u64))))))]), .gone,(.row [(.val (.int .u8 (IntKind.wrap IntKind.u8 (Int.fdiv (IntKind.wrap IntKind.u64 fl) ((2:Int)^min (Int.toNat (IntKind.wrap IntKind.i64 ((8:Int)*IntKind.wrap IntKind.i64 ((1:Int)-(1:Int))))) (IntKind.bits IntKind.u64)))))),(.val (.int .u8 (IntKind.wrap IntKind.u8 (Int.fdiv (IntKind.wrap IntKind.u64 t) ((2:Int)^min (Int.toNat (IntKind.wrap IntKind.i64 ((8:Int)*IntKind.wrap IntKind.i64 ((1:Int)-(1:Int))))) (IntKind.bits IntKind.u64))))))]), .gone, .gone,(.row [(.val (.int .u8 (IntKind.wrap IntKind.u8 (Int.fdiv (IntKind.wrap IntKind.u64 fl) ((2:Int)^min (Int.toNat (IntKind.wrap IntKind.i64 ((8:Int)*IntKind.wrap IntKind.i64 ((1:Int)-(1:Int))))) (IntKind.bits IntKind.u64)))))),(.val (.int .u8 (IntKind.wrap IntKind.u8 (Int.fdiv (IntKind.wrap IntKind.u64 t) ((2:Int)^min (Int.toNat (IntKind.wrap IntKind.i64 ((8:Int)*IntKind.wrap IntKind.i64 ((1:Int)-(1:Int))))) (IntKind.bits IntKind.u64)))))),(.val (.int .u8 (IntKind.wrap IntKind.u8 (Int.fdiv (IntKind.wrap IntKind.u64 (if (65535:Int)<(↑(List.length v):Int) then (65535:Int) else (↑(List.length v):Int))) ((2:Int)^min (Int.toNat (IntKind.wrap IntKind.i64 ((8:Int)*IntKind.wrap IntKind.i64 ((2:Int)-(1:Int))))) (IntKind.bits IntKind.u64)))))),(.val (.int .u8 (IntKind.wrap IntKind.u8 (Int.fdiv (IntKind.wrap IntKind.u64 (if (65535:Int)<(↑(List.length v):Int) then (65535:Int) else (↑(List.length v):Int))) ((2:Int)^min (Int.toNat (IntKind.wrap IntKind.i64 ((8:Int)*IntKind.wrap IntKind.i64 (IntKind.wrap IntKind.i64 ((2:Int)-(1:Int))-(1:Int))))) (IntKind.bits IntKind.u64))))))])], []⟩ (.call ⟨(.builtin .append), #[(.tmp 29),(.tmp 33)], #[94,94]⟩) [(29,(.row 1 7 0 4)),(33,(.vec 1 (w) .none))] (.row 1 (K) 0 (N)) ⟨[(.cells [(.val (.int .i64 (fl))),(.val (.int .i64 (t))),(.vec 1 (v) .none)]), .gone,(.row [(.val (.int .u8 (IntKind.wrap IntKind.u8 (Int.fdiv (IntKind.wrap IntKind.u64 fl) ((2:Int)^min (Int.toNat (IntKind.wrap IntKind.i64 ((8:Int)*IntKind.wrap IntKind.i64 ((1:Int)-(1:Int))))) (IntKind.bits IntKind.u64))))))]), .gone,(.row [(.val (.int .u8 (IntKind.wrap IntKind.u8 (Int.fdiv (IntKind.wrap IntKind.u64 fl) ((2:Int)^min (Int.toNat (IntKind.wrap IntKind.i64 ((8:Int)*IntKind.wrap IntKind.i64 ((1:Int)-(1:Int))))) (IntKind.bits IntKind.u64)))))),(.val (.int .u8 (IntKind.wrap IntKind.u8 (Int.fdiv (IntKind.wrap IntKind.u64 t) ((2:Int)^min (Int.toNat (IntKind.wrap IntKind.i64 ((8:Int)*IntKind.wrap IntKind.i64 ((1:Int)-(1:Int))))) (IntKind.bits IntKind.u64))))))]), .gone, .gone, .gone,(.row ([(.val (.int .u8 (IntKind.wrap IntKind.u8 (Int.fdiv (IntKind.wrap IntKind.u64 fl) ((2:Int)^min (Int.toNat (IntKind.wrap IntKind.i64 ((8:Int)*IntKind.wrap IntKind.i64 ((1:Int)-(1:Int))))) (IntKind.bits IntKind.u64)))))),(.val (.int .u8 (IntKind.wrap IntKind.u8 (Int.fdiv (IntKind.wrap IntKind.u64 t) ((2:Int)^min (Int.toNat (IntKind.wrap IntKind.i64 ((8:Int)*IntKind.wrap IntKind.i64 ((1:Int)-(1:Int))))) (IntKind.bits IntKind.u64)))))),(.val (.int .u8 (IntKind.wrap IntKind.u8 (Int.fdiv (IntKind.wrap IntKind.u64 (if (65535:Int)<(↑(List.length v):Int) then (65535:Int) else (↑(List.length v):Int))) ((2:Int)^min (Int.toNat (IntKind.wrap IntKind.i64 ((8:Int)*IntKind.wrap IntKind.i64 ((2:Int)-(1:Int))))) (IntKind.bits IntKind.u64)))))),(.val (.int .u8 (IntKind.wrap IntKind.u8 (Int.fdiv (IntKind.wrap IntKind.u64 (if (65535:Int)<(↑(List.length v):Int) then (65535:Int) else (↑(List.length v):Int))) ((2:Int)^min (Int.toNat (IntKind.wrap IntKind.i64 ((8:Int)*IntKind.wrap IntKind.i64 (IntKind.wrap IntKind.i64 ((2:Int)-(1:Int))-(1:Int))))) (IntKind.bits IntKind.u64))))))]++W))], []⟩∧
 Q (.row 1 (K) 0 (N)) ⟨[(.cells [(.val (.int .i64 (fl))),(.val (.int .i64 (t))),(.vec 1 (v) .none)]), .gone,(.row [(.val (.int .u8 (IntKind.wrap IntKind.u8 (Int.fdiv (IntKind.wrap IntKind.u64 fl) ((2:Int)^min (Int.toNat (IntKind.wrap IntKind.i64 ((8:Int)*IntKind.wrap IntKind.i64 ((1:Int)-(1:Int))))) (IntKind.bits IntKind.u64))))))]), .gone,(.row [(.val (.int .u8 (IntKind.wrap IntKind.u8 (Int.fdiv (IntKind.wrap IntKind.u64 fl) ((2:Int)^min (Int.toNat (IntKind.wrap IntKind.i64 ((8:Int)*IntKind.wrap IntKind.i64 ((1:Int)-(1:Int))))) (IntKind.bits IntKind.u64)))))),(.val (.int .u8 (IntKind.wrap IntKind.u8 (Int.fdiv (IntKind.wrap IntKind.u64 t) ((2:Int)^min (Int.toNat (IntKind.wrap IntKind.i64 ((8:Int)*IntKind.wrap IntKind.i64 ((1:Int)-(1:Int))))) (IntKind.bits IntKind.u64))))))]), .gone, .gone, .gone,(.row ([(.val (.int .u8 (IntKind.wrap IntKind.u8 (Int.fdiv (IntKind.wrap IntKind.u64 fl) ((2:Int)^min (Int.toNat (IntKind.wrap IntKind.i64 ((8:Int)*IntKind.wrap IntKind.i64 ((1:Int)-(1:Int))))) (IntKind.bits IntKind.u64)))))),(.val (.int .u8 (IntKind.wrap IntKind.u8 (Int.fdiv (IntKind.wrap IntKind.u64 t) ((2:Int)^min (Int.toNat (IntKind.wrap IntKind.i64 ((8:Int)*IntKind.wrap IntKind.i64 ((1:Int)-(1:Int))))) (IntKind.bits IntKind.u64)))))),(.val (.int .u8 (IntKind.wrap IntKind.u8 (Int.fdiv (IntKind.wrap IntKind.u64 (if (65535:Int)<(↑(List.length v):Int) then (65535:Int) else (↑(List.length v):Int))) ((2:Int)^min (Int.toNat (IntKind.wrap IntKind.i64 ((8:Int)*IntKind.wrap IntKind.i64 ((2:Int)-(1:Int))))) (IntKind.bits IntKind.u64)))))),(.val (.int .u8 (IntKind.wrap IntKind.u8 (Int.fdiv (IntKind.wrap IntKind.u64 (if (65535:Int)<(↑(List.length v):Int) then (65535:Int) else (↑(List.length v):Int))) ((2:Int)^min (Int.toNat (IntKind.wrap IntKind.i64 ((8:Int)*IntKind.wrap IntKind.i64 (IntKind.wrap IntKind.i64 ((2:Int)-(1:Int))-(1:Int))))) (IntKind.bits IntKind.u64))))))]++W))], []⟩))
 else (ax Tryz.prog (fun _=> .none) (.slice 94 (.tmp 31) .none (.some (.tmp 32)) .none) [(31,(.vec 1 (v) .none)),(32,(.val (.int .i64 (if (255:Int)<(↑(List.length v):Int) then (255:Int) else (↑(List.length v):Int)))))] (.vec 1 (w) .none)∧
 (aB Tryz.prog (fun _=> .none) 0 ⟨[(.cells [(.val (.int .i64 (fl))),(.val (.int .i64 (t))),(.vec 1 (v) .none)]), .gone,(.row [(.val (.int .u8 (IntKind.wrap IntKind.u8 (Int.fdiv (IntKind.wrap IntKind.u64 fl) ((2:Int)^min (Int.toNat (IntKind.wrap IntKind.i64 ((8:Int)*IntKind.wrap IntKind.i64 ((1:Int)-(1:Int))))) (IntKind.bits IntKind.u64))))))]), .gone,(.row [(.val (.int .u8 (IntKind.wrap IntKind.u8 (Int.fdiv (IntKind.wrap IntKind.u64 fl) ((2:Int)^min (Int.toNat (IntKind.wrap IntKind.i64 ((8:Int)*IntKind.wrap IntKind.i64 ((1:Int)-(1:Int))))) (IntKind.bits IntKind.u64)))))),(.val (.int .u8 (IntKind.wrap IntKind.u8 (Int.fdiv (IntKind.wrap IntKind.u64 t) ((2:Int)^min (Int.toNat (IntKind.wrap IntKind.i64 ((8:Int)*IntKind.wrap IntKind.i64 ((1:Int)-(1:Int))))) (IntKind.bits IntKind.u64))))))]), .gone,(.row [(.val (.int .u8 (IntKind.wrap IntKind.u8 (Int.fdiv (IntKind.wrap IntKind.u64 fl) ((2:Int)^min (Int.toNat (IntKind.wrap IntKind.i64 ((8:Int)*IntKind.wrap IntKind.i64 ((1:Int)-(1:Int))))) (IntKind.bits IntKind.u64)))))),(.val (.int .u8 (IntKind.wrap IntKind.u8 (Int.fdiv (IntKind.wrap IntKind.u64 t) ((2:Int)^min (Int.toNat (IntKind.wrap IntKind.i64 ((8:Int)*IntKind.wrap IntKind.i64 ((1:Int)-(1:Int))))) (IntKind.bits IntKind.u64)))))),(.val (.int .u8 (IntKind.wrap IntKind.u8 (Int.fdiv (IntKind.wrap IntKind.u64 (if (255:Int)<(↑(List.length v):Int) then (255:Int) else (↑(List.length v):Int))) ((2:Int)^min (Int.toNat (IntKind.wrap IntKind.i64 ((8:Int)*IntKind.wrap IntKind.i64 ((1:Int)-(1:Int))))) (IntKind.bits IntKind.u64))))))])], []⟩ (.call ⟨(.builtin .append), #[(.tmp 29),(.tmp 33)], #[94,94]⟩) [(29,(.row 1 6 0 3)),(33,(.vec 1 (w) .none))] (.row 1 (K) 0 (N)) ⟨[(.cells [(.val (.int .i64 (fl))),(.val (.int .i64 (t))),(.vec 1 (v) .none)]), .gone,(.row [(.val (.int .u8 (IntKind.wrap IntKind.u8 (Int.fdiv (IntKind.wrap IntKind.u64 fl) ((2:Int)^min (Int.toNat (IntKind.wrap IntKind.i64 ((8:Int)*IntKind.wrap IntKind.i64 ((1:Int)-(1:Int))))) (IntKind.bits IntKind.u64))))))]), .gone,(.row [(.val (.int .u8 (IntKind.wrap IntKind.u8 (Int.fdiv (IntKind.wrap IntKind.u64 fl) ((2:Int)^min (Int.toNat (IntKind.wrap IntKind.i64 ((8:Int)*IntKind.wrap IntKind.i64 ((1:Int)-(1:Int))))) (IntKind.bits IntKind.u64)))))),(.val (.int .u8 (IntKind.wrap IntKind.u8 (Int.fdiv (IntKind.wrap IntKind.u64 t) ((2:Int)^min (Int.toNat (IntKind.wrap IntKind.i64 ((8:Int)*IntKind.wrap IntKind.i64 ((1:Int)-(1:Int))))) (IntKind.bits IntKind.u64))))))]), .gone, .gone,(.row ([(.val (.int .u8 (IntKind.wrap IntKind.u8 (Int.fdiv (IntKind.wrap IntKind.u64 fl) ((2:Int)^min (Int.toNat (IntKind.wrap IntKind.i64 ((8:Int)*IntKind.wrap IntKind.i64 ((1:Int)-(1:Int))))) (IntKind.bits IntKind.u64)))))),(.val (.int .u8 (IntKind.wrap IntKind.u8 (Int.fdiv (IntKind.wrap IntKind.u64 t) ((2:Int)^min (Int.toNat (IntKind.wrap IntKind.i64 ((8:Int)*IntKind.wrap IntKind.i64 ((1:Int)-(1:Int))))) (IntKind.bits IntKind.u64)))))),(.val (.int .u8 (IntKind.wrap IntKind.u8 (Int.fdiv (IntKind.wrap IntKind.u64 (if (255:Int)<(↑(List.length v):Int) then (255:Int) else (↑(List.length v):Int))) ((2:Int)^min (Int.toNat (IntKind.wrap IntKind.i64 ((8:Int)*IntKind.wrap IntKind.i64 ((1:Int)-(1:Int))))) (IntKind.bits IntKind.u64))))))]++W))], []⟩∧
 Q (.row 1 (K) 0 (N)) ⟨[(.cells [(.val (.int .i64 (fl))),(.val (.int .i64 (t))),(.vec 1 (v) .none)]), .gone,(.row [(.val (.int .u8 (IntKind.wrap IntKind.u8 (Int.fdiv (IntKind.wrap IntKind.u64 fl) ((2:Int)^min (Int.toNat (IntKind.wrap IntKind.i64 ((8:Int)*IntKind.wrap IntKind.i64 ((1:Int)-(1:Int))))) (IntKind.bits IntKind.u64))))))]), .gone,(.row [(.val (.int .u8 (IntKind.wrap IntKind.u8 (Int.fdiv (IntKind.wrap IntKind.u64 fl) ((2:Int)^min (Int.toNat (IntKind.wrap IntKind.i64 ((8:Int)*IntKind.wrap IntKind.i64 ((1:Int)-(1:Int))))) (IntKind.bits IntKind.u64)))))),(.val (.int .u8 (IntKind.wrap IntKind.u8 (Int.fdiv (IntKind.wrap IntKind.u64 t) ((2:Int)^min (Int.toNat (IntKind.wrap IntKind.i64 ((8:Int)*IntKind.wrap IntKind.i64 ((1:Int)-(1:Int))))) (IntKind.bits IntKind.u64))))))]), .gone, .gone,(.row ([(.val (.int .u8 (IntKind.wrap IntKind.u8 (Int.fdiv (IntKind.wrap IntKind.u64 fl) ((2:Int)^min (Int.toNat (IntKind.wrap IntKind.i64 ((8:Int)*IntKind.wrap IntKind.i64 ((1:Int)-(1:Int))))) (IntKind.bits IntKind.u64)))))),(.val (.int .u8 (IntKind.wrap IntKind.u8 (Int.fdiv (IntKind.wrap IntKind.u64 t) ((2:Int)^min (Int.toNat (IntKind.wrap IntKind.i64 ((8:Int)*IntKind.wrap IntKind.i64 ((1:Int)-(1:Int))))) (IntKind.bits IntKind.u64)))))),(.val (.int .u8 (IntKind.wrap IntKind.u8 (Int.fdiv (IntKind.wrap IntKind.u64 (if (255:Int)<(↑(List.length v):Int) then (255:Int) else (↑(List.length v):Int))) ((2:Int)^min (Int.toNat (IntKind.wrap IntKind.i64 ((8:Int)*IntKind.wrap IntKind.i64 ((1:Int)-(1:Int))))) (IntKind.bits IntKind.u64))))))]++W))], []⟩))):=by kernel_rfl
end
--MsRc
section
open Go.RowKit

def bz (z:Int) (m:Nat):Int:=IntKind.wrap .u8 (Int.fdiv (IntKind.wrap .u64 z) ((2:Int)^m))
def dS (fl:Int) (v:Bs):Int:=bif mo fl then (if (65535:Int)<(v.length:Int) then 65535 else v.length) else (if (255:Int)<(v.length:Int) then 255 else v.length)
def uO (fl t n:Int):Bs:=bif mo fl then [bT (bz fl 0),bT (bz t 0),bT (bz n 8),bT (bz n 0)] else [bT (bz fl 0),bT (bz t 0),bT (bz n 0)]
def ep (fl t:Int) (v:Bs):Bs:=uO fl t (dS fl v)++v.take (dS fl v).toNat
theorem M5 (z:Int):0≤IntKind.wrap .u8 z∧IntKind.wrap .u8 z<256:=by
 simp only [IntKind.wrap,IntKind.bits,IntKind.signed];simp;omega
theorem m8 (z:Int) (m:Nat):0≤bz z m∧bz z m<256:=M5 _
theorem wW (fl:Int) (v:Bs):0≤dS fl v∧(dS fl v).toNat≤v.length:=by
 unfold dS
 cases mo fl<;>simp only [cond_true,cond_false]<;>split<;>omega
theorem sv {fl t:Int} {v:Bs} (hv:IsB v) (hl:v.length≤900000):IsB (ep fl t v):=by
  obtain ⟨⟨l,hl2,hz⟩,_⟩:=hv.take (dS fl v).toNat
  have h1:(v.take (dS fl v).toNat).length≤v.length:=by rw [List.length_take];omega
  unfold ep uO
  rw [hl2] at h1 ⊢
  cases mo fl
  · refine ⟨⟨bz fl 0::bz t 0::bz (dS fl v) 0::l,rfl,fun z hm=> ?_⟩, ?_⟩
    · rcases List.mem_cons.1 hm with rfl | hm;exact m8 _ _
      rcases List.mem_cons.1 hm with rfl | hm;exact m8 _ _
      rcases List.mem_cons.1 hm with rfl | hm;exact m8 _ _
      exact hz z hm
    · simp only [cond_false,List.length_append,List.length_cons,List.length_nil];omega
  · refine ⟨⟨bz fl 0::bz t 0::bz (dS fl v) 8::bz (dS fl v) 0::l,rfl,fun z hm=> ?_⟩, ?_⟩
    · rcases List.mem_cons.1 hm with rfl | hm;exact m8 _ _
      rcases List.mem_cons.1 hm with rfl | hm;exact m8 _ _
      rcases List.mem_cons.1 hm with rfl | hm;exact m8 _ _
      rcases List.mem_cons.1 hm with rfl | hm;exact m8 _ _
      exact hz z hm
    · simp only [cond_true,List.length_append,List.length_cons,List.length_nil];omega
theorem VCx.rowB {f:FuncId} {xs:List TV} {es:Bs} (hes:IsB es) (h:VCx Tryz.prog ae 0 f xs ⟨[], []⟩ fun x T' =>∃id off n,x= .row 1 id off n∧cn T' 1 (.row 1 id off n)=some es):VCx Tryz.prog ae 0 f xs ⟨[], []⟩ fun x T' =>x= .vec 1 es .none∧T' =⟨[], []⟩:=by
 refine VCx.keepQ 0 0 (Nat.le_refl _) (Nat.le_refl _) ((VCx.freeze (size:=1) (es:=es) (Q:=fun _=>True) (h.mono fun x T' ⟨id,off,n,h1,h2⟩=>⟨id,off,n,h1,h2,trivial⟩)).mono ?_)
 rintro x T' ⟨rfl,_⟩
 exact ⟨by simp only [TV.ren,hes.ren,Tok.ren],rfl⟩
theorem Fk (fl t:Int):VCx Tryz.prog ae 0 qS [tK fl t []] ⟨[], []⟩ fun x T' =>x= .vec 1 (ep fl t []) .none∧T' =⟨[], []⟩:=by
 refine VCx.rowB (sv .nil (by simp)) (ak ac aa ai ah (Hx fl t _) ?_)
 refine aF (fun hx=>⟨7,0,4,rfl, ?_⟩) (fun hx=>⟨6,0,3,rfl, ?_⟩)
 ·have e:ep fl t []= [bT (bz fl 0),bT (bz t 0),bT (bz 0 8),bT (bz 0 0)]:=by
   unfold ep uO dS;rw [show mo fl=true from hx];rfl
  rw [e]
  exact hZ (es:= [bT (bz fl 0),bT (bz t 0),bT (bz 0 8),bT (bz 0 0)]) (by kernel_rfl) (by intro e he;simp only [List.mem_cons,List.not_mem_nil,or_false] at he;rcases he with rfl | rfl | rfl | rfl<;>rfl)
 ·have e:ep fl t []= [bT (bz fl 0),bT (bz t 0),bT (bz 0 0)]:=by
   unfold ep uO dS;rw [show mo fl=false from hx];rfl
  rw [e]
  exact hZ (es:= [bT (bz fl 0),bT (bz t 0),bT (bz 0 0)]) (by kernel_rfl) (by intro e he;simp only [List.mem_cons,List.not_mem_nil,or_false] at he;rcases he with rfl | rfl | rfl<;>rfl)
theorem wX {T T' :VT} {s x:Operand} {l:List (Nat × TV)} {q0:List TV} {qs:Bs} {tok:Tok} {id n:Nat} {cs:List TV} {y:TV} (hs:bb ae l s= .row 1 id 0 n) (ho:T.objs[id]?=some (.row cs)) (hn:n≤cs.length) (hx:bb ae l x= .vec 1 (q0::qs) tok) (hb:n+(q0::qs).length≤2000001)
  (hy:TV.row 1 T.objs.length 0 (n+(q0::qs).length)=y) (hT:(T.kill id).newRow (cs.take n++(q0::qs).flatten)=T'):aB Tryz.prog ae 0 T (.call ⟨.builtin .append, #[s,x], #[94,94]⟩) l y T' :=by
 obtain ⟨inf,i1,i2,i3,i4⟩:=ko
 have h:=yu (inf:=inf) (P:=Tryz.prog) (G:=ae) (ro:=0) (T:=T) (t:=94) (tx:=94) (s:=s) (x:=x) (l:=l) (q0:=q0) (qs:=qs) (tok:=tok) (id:=id) (n:=n) (cs:=cs) Tryz.underlying94 i1 i4 (by rw [i2];rfl) (by rfl) (by kernel_rfl) (by rw [i2];exact hs) ho (Nat.zero_le _) (by rw [i2];omega) (by rw [i2];exact hx) (by rw [i3];omega)
 rw [i2,Nat.mul_one,hy,hT] at h
 exact h
theorem Hy {fl:Int} {r:List TV} {v:Bs}:0<(dS fl (r::v)).toNat:=by
 unfold dS
 cases mo fl<;>simp only [cond_true,cond_false,List.length_cons]<;>split<;>omega
theorem Hz (fl t:Int) {r:List TV} {v:Bs} (hv:IsB (r::v)) (hl:(r::v).length≤900000):VCx Tryz.prog ae 0 qS [tK fl t (r::v)] ⟨[], []⟩ fun x T' =>x= .vec 1 (ep fl t (r::v)) .none∧T' =⟨[], []⟩:=by
  obtain ⟨h0,h1⟩:=wW fl (r::v)
  have hp:=Hy (fl:=fl) (r:=r) (v:=v)
  obtain ⟨qs,hqs⟩:∃qs,(r::v).take (dS fl (r::v)).toNat=r::qs:=by
    obtain ⟨k,hk⟩:∃k,(dS fl (r::v)).toNat=k+1:=⟨_,(Nat.succ_pred_eq_of_pos hp).symm⟩
    exact ⟨v.take k,by rw [hk];rfl⟩
  have hql:(r::qs).length≤900000:=by
    rw [←hqs,List.length_take];omega
  have hq1:∀e∈r::qs,e.length=1:=by
    rw [←hqs];exact (hv.take _).len1
  refine VCx.rowB (sv hv hl) (ak ac aa ai ah (JZ fl t (r::v) (r::qs) (r::qs).flatten (bif mo fl then 8 else 7) ((r::qs).length+(bif mo fl then 4 else 3)) _) ?_)
  refine aF (fun hx=> ?_) (fun hx=> ?_)
  · have hx2:mo fl=true:=hx
    have hM:dS fl (r::v)=(if (65535:Int)<((r::v).length:Int) then 65535 else ((r::v).length:Int)):=by unfold dS;rw [hx2];rfl
    rw [hx2,←hM]
    refine ⟨?_,wX (id:=7) (n:=4) (tok:= .none) rfl rfl (Nat.le_refl 4) rfl (by omega) (by rw [Nat.add_comm 4];rfl) rfl,8,0,(r::qs).length+4,rfl, ?_⟩
    · have h:=oH (x:= .tmp 31) (i:= .tmp 32) (l:= [(31, .vec 1 (r::v) .none),(32, .val (.int .i64 (dS fl (r::v))))]) (b:=r::v) (tok:= .none) (k:= .i64) (z:=dS fl (r::v)) rfl rfl h0 rfl h1
      rwa [hqs] at h
    · have e:ep fl t (r::v)= [bT (bz fl 0),bT (bz t 0),bT (bz (dS fl (r::v)) 8),bT (bz (dS fl (r::v)) 0)]++(r::qs):=by unfold ep uO;rw [hx2,hqs];rfl
      rw [e]
      exact hZ (es:= [bT (bz fl 0),bT (bz t 0),bT (bz (dS fl (r::v)) 8),bT (bz (dS fl (r::v)) 0)]++(r::qs)) rfl (fun e he=>by
        rcases List.mem_append.1 he with h | h
        · simp only [List.mem_cons,List.not_mem_nil,or_false] at h;rcases h with rfl | rfl | rfl | rfl<;>rfl
        · exact hq1 e h)
  · have hx2:mo fl=false:=hx
    have hM:dS fl (r::v)=(if (255:Int)<((r::v).length:Int) then 255 else ((r::v).length:Int)):=by unfold dS;rw [hx2];rfl
    rw [hx2,←hM]
    refine ⟨?_,wX (id:=6) (n:=3) (tok:= .none) rfl rfl (Nat.le_refl 3) rfl (by omega) (by rw [Nat.add_comm 3];rfl) rfl,7,0,(r::qs).length+3,rfl, ?_⟩
    · have h:=oH (x:= .tmp 31) (i:= .tmp 32) (l:= [(31, .vec 1 (r::v) .none),(32, .val (.int .i64 (dS fl (r::v))))]) (b:=r::v) (tok:= .none) (k:= .i64) (z:=dS fl (r::v)) rfl rfl h0 rfl h1
      rwa [hqs] at h
    · have e:ep fl t (r::v)= [bT (bz fl 0),bT (bz t 0),bT (bz (dS fl (r::v)) 0)]++(r::qs):=by unfold ep uO;rw [hx2,hqs];rfl
      rw [e]
      exact hZ (es:= [bT (bz fl 0),bT (bz t 0),bT (bz (dS fl (r::v)) 0)]++(r::qs)) rfl (fun e he=>by
        rcases List.mem_append.1 he with h | h
        · simp only [List.mem_cons,List.not_mem_nil,or_false] at h;rcases h with rfl | rfl | rfl<;>rfl
        · exact hq1 e h)
end
--MsRe
section
open Go.RowKit

def ku (fl t:Int) (v:Bs):Prop:=(0≤fl∧fl<256)∧(0≤t∧t<256)∧IsB v∧v.length≤900000
end
--MsUd
section
open Go.RowKit

structure NR where
 w:Bs
 o:Int
 x:Bs
 h:Int
 m:Int
 hm:Bool
 n:Bs
def OF:NR:=⟨[],0, [],0,0,false, []⟩
end
--MsHc
section
open Go.RowKit

structure NS where
 n:Int
 h:Int
 i:Int
 l:Bs
def OG:NS:=⟨0,0,0, []⟩
structure Oh where
 k:Int
 op:NS
 u:NR
 c:Int
 s:Int
 d:Bs
def m0:Oh:=⟨0,OG,OF,0,0, []⟩
end
--MsWf
section
open Go.RowKit

def Oi (x:Bs):Prop:=∃l:List Int,x=iV l∧l.length≤9223372036854775807
end
--MbB
section
open Go.RowKit

abbrev uP:=90
abbrev kw:=95
abbrev qT:=92
abbrev wY:=96
abbrev kx:=78
abbrev qf:=73
abbrev qg:=42
def eY (n k:Int):Prop:=(0≤n∧n≤1000000000000000)∧0≤k∧k≤8
def qh (b:Bs):Prop:=IsB b∧b≠ []
def bh (k n:Int):Bs:=qd k.toNat n.toNat
def Fl (a n:Int):Prop:=qe n∧CY a n=a
def wZ (a n:Int):Prop:=(0≤a∧a<4294967296)∧Fl a n
def sw (n:Int):Nat:=((n+7)/8).toNat
def ky (a n:Int):Bs:=bT n::(bh 4 a).take (sw n)
def m9:aM:=fun _ ys T K=>match ys with
 | [x, .val (.int .u64 n), .val (.int .i64 k)]=>match x with
  | .val (.slice none 0 0)=>eY n k∧K (.vec 1 (bh k n) .none) T
  | .vec 1 b _=>(eY n k∧qh b)∧K (.vec 1 (b++bh k n) .none) T
  | _=>ay 85 default ys
 | _=>ay 84 default ys
def jb (kd:IntKind) (k:Int):aM:=fun _ ys T K=>match ys with
 | [x, .val (.int q n)]=>(q=kd)∧match x with
  | .val (.slice none 0 0)=>eY n k∧K (.vec 1 (bh k n) .none) T
  | .vec 1 b _=>(eY n k∧qh b)∧K (.vec 1 (b++bh k n) .none) T
  | _=>ay 85 default ys
 | _=>ay 84 default ys
def Gc:aM:=fun _ ys T K=>match ys with
 | [.agg [.val (.int .u32 a), .val (.int .i64 n)]]=>Fl a n∧K (.agg [.val (.int .u32 a), .val (.int .i64 n)]) T
 | _=>ay 84 default ys
def Ge:aM:=fun _ ys T K=>match ys with
 | [.agg [.val (.int .u32 a), .val (.int .i64 n)]]=>wZ a n∧K (.vec 1 (ky a n) .none) T
 | _=>ay 84 default ys
def C1:List Nat:= [3,6,7,8]
def yY (B L:Bs) (j:Int):List TV:= [.vec 1 B (.tail 0 B.length), .vec 2 L .none, .val (.int .i64 L.length), .val (.int .i64 j)]
def NT (B L:Bs) (c0:Code):Nat→Option (br × Code):=bv [(0,bN 18 C1 [(3,1)] (yY [] L 0) ⟨[], [(0,1,true)]⟩ fun K=>K .normal (aj 18 C1 (yY B L L.length)) ⟨[], [(B.length,1,true)]⟩ [],c0)]
def yZ:List Nat:= [0,1,4,7,8]
def uQ (l:Bs) (r j:Int):List TV:= [.vec 1 l .none, .fn (.func 52) [] [], .val (.int .i64 r), .val (.int .i64 l.length), .val (.int .i64 j)]
def OH (l:Bs) (ok:Bool) (K:KX):Prop:=∀z:Nat,bif ok then K .normal (aj 19 yZ (uQ l 0 l.length)) ⟨[], []⟩ [] else K .ret (aj 19 yZ (uQ l z z)) ⟨[], []⟩ []
def NU (l:Bs) (ok:Bool) (c0:Code):Nat→Option (br × Code):=bv [(0,bN 19 yZ [] (uQ l 0 0) ⟨[], []⟩ (OH l ok),c0)]
def y0:List Nat:= [0,1,4,12,13]
def uR (s:Nat) (l m:Bs) (j:Int):List TV:= [.vec s l .none, .vec s m .none, .val (.bool false), .val (.int .i64 l.length), .val (.int .i64 j)]
def OI (s:Nat) (l m:Bs) (ok:Bool) (K:KX):Prop:=(@Eq Nat l.length m.length)∧∀z:Int,bif ok then K .normal (aj 26 y0 (uR s l m l.length)) ⟨[], []⟩ [] else K .ret (aj 26 y0 (uR s l m z)) ⟨[], []⟩ []
def J0 (s:Nat) (l m:Bs) (ok:Bool) (c0:Code):Nat→Option (br × Code):=bv [(0,bN 26 y0 [] (uR s l m 0) ⟨[], []⟩ (OI s l m ok),c0)]
theorem M6 (b:Bs) (tok:Tok) (n:Int) (Q:TV→VT→Prop):aq Tryz.prog ae (aw [(eG,m9)]) aY 300 aD 0 uP [.vec 1 b tok, .val (.int .i64 n)] ⟨[], []⟩ Q=
 ((eY (IntKind.wrap IntKind.u64 n) 1∧
 qh (b))∧
 Q (.vec 1 (b++bh (1:Int) (IntKind.wrap IntKind.u64 n)) .none) ⟨[], []⟩):=by kernel_rfl
theorem J1 (n:Int) (Q:TV→VT→Prop):aq Tryz.prog ae (aw [(eG,m9)]) aY 300 aD 0 uP [.val (.slice none 0 0), .val (.int .i64 n)] ⟨[], []⟩ Q=
 (eY (IntKind.wrap IntKind.u64 n) 1∧
 Q (.vec 1 (bh (1:Int) (IntKind.wrap IntKind.u64 n)) .none) ⟨[], []⟩):=by kernel_rfl
theorem J2 (b:Bs) (tok:Tok) (n:Int) (Q:TV→VT→Prop):aq Tryz.prog ae (aw [(eG,m9)]) aY 300 aD 0 kw [.vec 1 b tok, .val (.int .i64 n)] ⟨[], []⟩ Q=
 ((eY (IntKind.wrap IntKind.u64 n) 2∧
 qh (b))∧
 Q (.vec 1 (b++bh (2:Int) (IntKind.wrap IntKind.u64 n)) .none) ⟨[], []⟩):=by kernel_rfl
theorem HA (n:Int) (Q:TV→VT→Prop):aq Tryz.prog ae (aw [(eG,m9)]) aY 300 aD 0 kw [.val (.slice none 0 0), .val (.int .i64 n)] ⟨[], []⟩ Q=
 (eY (IntKind.wrap IntKind.u64 n) 2∧
 Q (.vec 1 (bh (2:Int) (IntKind.wrap IntKind.u64 n)) .none) ⟨[], []⟩):=by kernel_rfl
theorem J3 (b:Bs) (tok:Tok) (n:Int) (Q:TV→VT→Prop):aq Tryz.prog ae (aw [(eG,m9)]) aY 300 aD 0 qT [.vec 1 b tok, .val (.int .u32 n)] ⟨[], []⟩ Q=
 ((eY (IntKind.wrap IntKind.u64 n) 4∧
 qh (b))∧
 Q (.vec 1 (b++bh (4:Int) (IntKind.wrap IntKind.u64 n)) .none) ⟨[], []⟩):=by kernel_rfl
theorem HD (n:Int) (Q:TV→VT→Prop):aq Tryz.prog ae (aw [(eG,m9)]) aY 300 aD 0 qT [.val (.slice none 0 0), .val (.int .u32 n)] ⟨[], []⟩ Q=
 (eY (IntKind.wrap IntKind.u64 n) 4∧
 Q (.vec 1 (bh (4:Int) (IntKind.wrap IntKind.u64 n)) .none) ⟨[], []⟩):=by kernel_rfl
theorem J4 (a n:Int) (q c:Bs) (e:Nat) (Q:TV→VT→Prop):aq Tryz.prog ae (aw [(qT,jb .u32 4),(qQ,Gc)]) (aA [(999998, .dead,none),(16, .vec 1 q .none,none),(17, .vec 1 c (.tail 0 e),some fun T=>{T with tails:= [(e,1,false)]})]) 300 aD 0 wY [.agg [.val (.int .u32 a), .val (.int .i64 n)]] ⟨[], []⟩ Q=
 (Fl (a) (n)∧
 ((@Eq (IntKind) .u32 .u32)∧
 (eY (a) 4∧
 (((@Eq (Option TV) (.some (.val (.int .i64 (n)))) (.some (.val (.int .i64 (n)))))∧
 ((@Eq (Option TV) (.some (.val (.int .u32 (a)))) (.some (.val (.int .u32 (a)))))∧
 ((@Eq (Option TV) (.some (.val (.int .i64 (n)))) (.some (.val (.int .i64 (n)))))∧
 True)))∧
 (((@Eq (Option TV) (.some (.val (.int .i64 (n)))) (.some (.val (.int .i64 (n)))))∧
 ((@Eq (Option TV) (.some (.val (.int .u32 (a)))) (.some (.val (.int .u32 (a)))))∧
 ((@Eq (Option TV) (.some (.val (.int .i64 (n)))) (.some (.val (.int .i64 (n)))))∧
 True)))∧
 (ax Tryz.prog (fun _=> .none) (.slice 94 (.tmp 12) .none (.some (.tmp 15)) .none) [(12,(.vec 1 (bh (4:Int) a) .none)),(15,(.val (.int .i64 (IntKind.wrap IntKind.i64 (Int.tdiv (IntKind.wrap IntKind.i64 (IntKind.wrap IntKind.i64 (n+(8:Int))-(1:Int))) (8:Int))))))] (.vec 1 (q) .none)∧
 (aB Tryz.prog (fun _=> .none) 0 ⟨[(.cells [(.val (.int .u32 (a))),(.val (.int .i64 (n)))]),(.cells [(.val (.int .u32 (a))),(.val (.int .i64 (n)))])], []⟩ (.call ⟨(.builtin .append), #[(.tmp 9),(.tmp 16)], #[94,94]⟩) [(9,(.vec 1 [[(.val (.int .u8 (IntKind.wrap IntKind.u8 n)))]] .full)),(16,(.vec 1 (q) .none))] (.vec 1 (c) (.tail 0 (e))) ⟨[(.cells [(.val (.int .u32 (a))),(.val (.int .i64 (n)))]),(.cells [(.val (.int .u32 (a))),(.val (.int .i64 (n)))])], [((e),(1,false))]⟩∧
 Q (.vec 1 (c) (.tail 0 (e))) ⟨[(.cells [(.val (.int .u32 (a))),(.val (.int .i64 (n)))]),(.cells [(.val (.int .u32 (a))),(.val (.int .i64 (n)))])], [((e),(1,false))]⟩))))))):=by kernel_rfl
theorem J5 (B L:Bs) (Q:TV→VT→Prop):aq Tryz.prog ae aR aY 300 (NT B L (am Tryz.prog kx 0)) 0 kx [.vec 2 L .none] ⟨[], []⟩ Q=
 ((am Tryz.prog kx (0:Nat)=am Tryz.prog kx (0:Nat))∧
 (((@Eq (Option Nat) .none .none)∧
 ((@Eq (Nat) 0 0)∧
 ((@Eq (List Nat) [] [])∧
 (((@Eq (Option TV) (.some (.val (.slice .none 0 0))) (.some (.val (.slice .none 0 0))))∧
 True)∧
 ((@Eq (VT) ⟨[], [(0,(1,true))]⟩ ⟨[], [(0,(1,true))]⟩)∧
 ((@Eq (Bool) true true)∧
 (@Eq (List TV) [(.vec 1 [] (.tail 0 0)),(.vec 2 (L) .none),(.val (.int .i64 ((↑(List.length L):Int)))),(.val (.int .i64 0))] [(.vec 1 [] (.tail 0 0)),(.vec 2 (L) .none),(.val (.int .i64 ((↑(List.length L):Int)))),(.val (.int .i64 0))])))))))∧
 Q (.vec 1 (B) (.tail 0 (List.length B))) ⟨[], [((List.length B),(1,true))]⟩)):=by kernel_rfl
theorem y7 (B B2 L:Bs) (a n:Int) (j:Nat) (Q:Exit→List TV→VT→List Nat→Nat→Prop):vx Tryz.prog ae (aw [(wY,Ge)]) (aA [(999999, .dead,none),(10, .elt [.val (.int .u32 a), .val (.int .i64 n)],none),(15, .vec 1 B2 (.tail 0 B2.length),some fun T=>{T with tails:= [(B2.length,1,true)]})]) 300 aD none 0 (bd Tryz.prog kx 0) (aj 18 C1 (yY B L j)) ⟨[], [(B.length,1,true)]⟩ [] (bA C1 Q)=
 (bif decide ((↑j:Int)<(↑(List.length L):Int))
 then (ax Tryz.prog (fun _=> .none) (.indexAddr 32 (.tmp 6) (.tmp 8)) [(6,(.vec 2 (L) .none)),(8,(.val (.int .i64 ((↑j:Int)))))] (.elt [(.val (.int .u32 (a))),(.val (.int .i64 (n)))])∧
 (wZ (a) (n)∧
 (aB Tryz.prog (fun _=> .none) 0 ⟨[(.cells [(.val (.int .u32 (a))),(.val (.int .i64 (n)))])], [((List.length B),(1,true))]⟩ (.call ⟨(.builtin .append), #[(.tmp 12),(.tmp 14)], #[94,94]⟩) [(12,(.vec 1 (B) (.tail 0 (List.length B)))),(14,(.vec 1 (ky a n) .none))] (.vec 1 (B2) (.tail 0 (List.length B2))) ⟨[(.cells [(.val (.int .u32 (a))),(.val (.int .i64 (n)))])], [((List.length B2),(1,true))]⟩∧
 Q .normal [(.vec 1 (B2) (.tail 0 (List.length B2))),(.vec 2 (L) .none),(.val (.int .i64 ((↑(List.length L):Int)))),(.val (.int .i64 (IntKind.wrap IntKind.i64 ((↑j:Int)+(1:Int)))))] ⟨[(.cells [(.val (.int .u32 (a))),(.val (.int .i64 (n)))])], [((List.length B2),(1,true))]⟩ [] 18)))
 else Q (.exit 0) [(.vec 1 (B) (.tail 0 (List.length B))),(.vec 2 (L) .none),(.val (.int .i64 ((↑(List.length L):Int)))),(.val (.int .i64 ((↑j:Int))))] ⟨[], [((List.length B),(1,true))]⟩ [] 18):=by kernel_rfl
theorem M7 (l:Bs) (ok:Bool) (Q:TV→VT→Prop):aq Tryz.prog ae aR aY 300 (NU l ok (am Tryz.prog qf 0)) 0 qf [.vec 1 l .none, .fn (.func 52) [] []] ⟨[], []⟩ Q=
 ((am Tryz.prog qf (0:Nat)=am Tryz.prog qf (0:Nat))∧
 (((@Eq (Option Nat) .none .none)∧
 ((@Eq (Nat) 0 0)∧
 ((@Eq (List Nat) [] [])∧
 (True  ∧
 ((@Eq (VT) ⟨[], []⟩ ⟨[], []⟩)∧
 ((@Eq (Bool) true true)∧
 (@Eq (List TV) [(.vec 1 (l) .none),(.fn (.func 52) [] []),(.val (.int .i64 0)),(.val (.int .i64 ((↑(List.length l):Int)))),(.val (.int .i64 0))] [(.vec 1 (l) .none),(.fn (.func 52) [] []),(.val (.int .i64 0)),(.val (.int .i64 ((↑(List.length l):Int)))),(.val (.int .i64 0))])))))))∧
 (∀z:Nat,(bif ok
 then Q (.val (.int .i64 (-1))) ⟨[], []⟩
 else Q (.val (.int .i64 ((↑z:Int)))) ⟨[], []⟩)))):=by kernel_rfl
theorem C2 (l:Bs) (z:Int) (j:Nat) (Q:Exit→List TV→VT→List Nat→Nat→Prop):vx Tryz.prog ae aR (aA [(14, .elt [.val (.int .i64 z)],none)]) 300 aD none 0 (bd Tryz.prog qf 0) (aj 19 yZ (uQ l 0 j)) ⟨[], []⟩ [] (bA yZ Q)=
 (bif decide ((↑j:Int)<(↑(List.length l):Int))
 then (ax Tryz.prog (fun _=> .none) (.indexAddr 33 (.tmp 12) (.tmp 13)) [(12,(.vec 1 (l) .none)),(13,(.val (.int .i64 ((↑j:Int)))))] (.elt [(.val (.int .i64 (z)))])∧
 (bif decide (z≥(1:Int))
 then (bif !decide (z≤(65535:Int))
 then Q .ret [(.vec 1 (l) .none),(.fn (.func 52) [] []),(.val (.int .i64 ((↑j:Int)))),(.val (.int .i64 ((↑(List.length l):Int)))),(.val (.int .i64 ((↑j:Int))))] ⟨[], []⟩ [] 19
 else Q .normal [(.vec 1 (l) .none),(.fn (.func 52) [] []),(.val (.int .i64 0)),(.val (.int .i64 ((↑(List.length l):Int)))),(.val (.int .i64 (IntKind.wrap IntKind.i64 ((↑j:Int)+(1:Int)))))] ⟨[], []⟩ [] 19)
 else Q .ret [(.vec 1 (l) .none),(.fn (.func 52) [] []),(.val (.int .i64 ((↑j:Int)))),(.val (.int .i64 ((↑(List.length l):Int)))),(.val (.int .i64 ((↑j:Int))))] ⟨[], []⟩ [] 19))
 else Q (.exit 0) [(.vec 1 (l) .none),(.fn (.func 52) [] []),(.val (.int .i64 0)),(.val (.int .i64 ((↑(List.length l):Int)))),(.val (.int .i64 ((↑j:Int))))] ⟨[], []⟩ [] 19):=by kernel_rfl
theorem Gf (l m:Bs) (ok:Bool) (Q:TV→VT→Prop):aq Tryz.prog ae aR aY 300 (J0 1 l m ok (am Tryz.prog qg 0)) 0 qg [.vec 1 l .none, .vec 1 m .none] ⟨[], []⟩ Q=
 (bif aG BinOp.neq (ar (Value.int IntKind.i64 (↑(List.length l):Int)) (Value.int IntKind.i64 (↑(List.length m):Int)))
 then Q (.val (.bool false)) ⟨[], []⟩
 else ((am Tryz.prog qg (0:Nat)=am Tryz.prog qg (0:Nat))∧
 (((@Eq (Option Nat) .none .none)∧
 ((@Eq (Nat) 0 0)∧
 ((@Eq (List Nat) [] [])∧
 (True  ∧
 ((@Eq (VT) ⟨[], []⟩ ⟨[], []⟩)∧
 ((@Eq (Bool) true true)∧
 (@Eq (List TV) [(.vec 1 (l) .none),(.vec 1 (m) .none),(.val (.bool false)),(.val (.int .i64 ((↑(List.length l):Int)))),(.val (.int .i64 0))] [(.vec 1 (l) .none),(.vec 1 (m) .none),(.val (.bool false)),(.val (.int .i64 ((↑(List.length l):Int)))),(.val (.int .i64 0))])))))))∧
 ((@Eq (Nat) (List.length l) (List.length m))∧
 (∀z:Int,(bif ok
 then Q (.val (.bool true)) ⟨[], []⟩
 else Q (.val (.bool false)) ⟨[], []⟩)))))):=by kernel_rfl
theorem C3 (l m:Bs) (x y:Int) (j:Nat) (Q:Exit→List TV→VT→List Nat→Nat→Prop):vx Tryz.prog ae aR (aA [(18, .elt [.val (.int .i64 x)],none),(22, .elt [.val (.int .i64 y)],none)]) 300 aD none 0 (bd Tryz.prog qg 0) (aj 26 y0 (uR 1 l m j)) ⟨[], []⟩ [] (bA y0 Q)=
 (bif decide ((↑j:Int)<(↑(List.length l):Int))
 then (ax Tryz.prog (fun _=> .none) (.indexAddr 33 (.tmp 16) (.tmp 17)) [(16,(.vec 1 (l) .none)),(17,(.val (.int .i64 ((↑j:Int)))))] (.elt [(.val (.int .i64 (x)))])∧
 (ax Tryz.prog (fun _=> .none) (.indexAddr 33 (.tmp 20) (.tmp 21)) [(20,(.vec 1 (m) .none)),(21,(.val (.int .i64 ((↑j:Int)))))] (.elt [(.val (.int .i64 (y)))])∧
 (bif aG BinOp.neq (ar (Value.int IntKind.i64 x) (Value.int IntKind.i64 y))
 then Q .ret [(.vec 1 (l) .none),(.vec 1 (m) .none),(.val (.bool false)),(.val (.int .i64 ((↑(List.length l):Int)))),(.val (.int .i64 ((↑j:Int))))] ⟨[], []⟩ [] 26
 else Q .normal [(.vec 1 (l) .none),(.vec 1 (m) .none),(.val (.bool false)),(.val (.int .i64 ((↑(List.length l):Int)))),(.val (.int .i64 (IntKind.wrap IntKind.i64 ((↑j:Int)+(1:Int)))))] ⟨[], []⟩ [] 26)))
 else Q (.exit 0) [(.vec 1 (l) .none),(.vec 1 (m) .none),(.val (.bool false)),(.val (.int .i64 ((↑(List.length l):Int)))),(.val (.int .i64 ((↑j:Int))))] ⟨[], []⟩ [] 26):=by kernel_rfl
end
--MbC
section
open Go.RowKit

theorem dd {k:Int} (n:Int) (hk:k≤8):IsB (bh k n):=wU (by omega)
theorem co {k:Int} (n:Int):(bh k n).length=k.toNat:=yW _ _
theorem HE:∀ro ys T K,m9 ro ys T K→VCx Tryz.prog ae ro eG ys T K:=by
 intro ro ys T K hw
 unfold m9 at hw
 split at hw
 ·rename_i x n k
  split at hw
  ·obtain ⟨⟨⟨h1,h1b⟩,h2,h3⟩,hk⟩:=hw
   obtain ⟨n,rfl⟩:=Int.eq_ofNat_of_zero_le h1
   obtain ⟨k,rfl⟩:=Int.eq_ofNat_of_zero_le h2
   have hb:IsB (qd k n):=wU (by omega)
   exact VCx.liftPure ap (EV (n:=n) (k:=k) (by omega)) (by simp only [av,TV.ren]) (fun f g=>by simp only [TV.ren,hb.ren,Tok.ren]) hk
  ·rename_i b tok
   obtain ⟨⟨⟨⟨h1,h1b⟩,h2,h3⟩,hb,hne⟩,hk⟩:=hw
   obtain ⟨n,rfl⟩:=Int.eq_ofNat_of_zero_le h1
   obtain ⟨k,rfl⟩:=Int.eq_ofNat_of_zero_le h2
   have hp:=dd (k:=((k:Nat):Int)) ((n:Nat):Int) h3
   refine VCx.liftPure ap (Hi (n:=n) (k:=k) hb hne (tok.ren (bc []) (bc [])) (by omega)) (by simp only [av,TV.ren,hb.ren]) (fun f g=> ?_) hk
   have e:bG f g (b++bh ((k:Nat):Int) ((n:Nat):Int))=b++bh ((k:Nat):Int) ((n:Nat):Int):=by rw [bS,List.map_append,←bS,←bS,hb.ren,hp.ren]
   simp only [TV.ren,Tok.ren]
   exact congrArg (fun z=>TV.vec 1 z .none) e
  ·exact hw.elim
 ·exact hw.elim
theorem lh {n:Int} (h0:0≤n) (h1:n≤1000000000000000):IntKind.u64.wrap n=n:=by
 simp only [IntKind.wrap,IntKind.bits,IntKind.signed];simp;omega
theorem pD:aQ Tryz.prog ae (aw [(eG,m9)]):=aE fun p hp=>by obtain rfl:=List.mem_singleton.1 hp;exact HE
theorem tL {b c:Bs} (hb:IsB b) (hc:IsB c) (f g:Nat→Option Nat):bG f g (b++c)=b++c:=by
 rw [bS,List.map_append,←bS,←bS,hb.ren,hc.ren]
theorem tM {f:FuncId} {kd:IntKind} {k:Int} (h0:∀{n:Int},0≤n→n≤1000000000000000→VCx Tryz.prog ae 0 f [.val (.slice none 0 0), .val (.int kd n)] ⟨[], []⟩ fun x T' =>x= .vec 1 (bh k n) .none∧T' =⟨[], []⟩)
  (h1:∀{n:Int} {b:Bs} (tok:Tok),0≤n→n≤1000000000000000→IsB b→b≠ []→VCx Tryz.prog ae 0 f [.vec 1 b tok, .val (.int kd n)] ⟨[], []⟩ fun x T' =>x= .vec 1 (b++bh k n) .none∧T' =⟨[], []⟩):
  ∀ro ys T K,jb kd k ro ys T K→VCx Tryz.prog ae ro f ys T K:=by
 intro ro ys T K hw
 unfold jb at hw
 split at hw
 ·rename_i x q n
  obtain ⟨rfl,hw⟩:=hw
  split at hw
  ·obtain ⟨⟨⟨g1,hn⟩,g2,g3⟩,hk⟩:=hw
   exact VCx.liftPure ap (h0 g1 hn) (by simp only [av,TV.ren]) (fun f g=>by simp only [TV.ren,(dd n g3).ren,Tok.ren]) hk
  ·rename_i b tok
   obtain ⟨⟨⟨⟨g1,hn⟩,g2,g3⟩,hb,hne⟩,hk⟩:=hw
   exact VCx.liftPure ap (h1 (tok.ren (bc []) (bc [])) g1 hn hb hne) (by simp only [av,TV.ren,hb.ren]) (fun f g=>by simp only [TV.ren,tL hb (dd n g3),Tok.ren]) hk
  ·exact hw.elim
 ·exact hw.elim
theorem Gg:∀ro ys T K,jb .i64 1 ro ys T K→VCx Tryz.prog ae ro uP ys T K:=tM
 (fun g hn=>ak ac aa pD ah (J1 _ _) (by rw [lh g hn];exact ⟨⟨⟨g,hn⟩,by decide,by decide⟩,rfl,rfl⟩))
 (fun tok g hn hb hne=>ak ac aa pD ah (M6 _ tok _ _) (by rw [lh g hn];exact ⟨⟨⟨⟨g,hn⟩,by decide,by decide⟩,hb,hne⟩,rfl,rfl⟩))
theorem J6:∀ro ys T K,jb .i64 2 ro ys T K→VCx Tryz.prog ae ro kw ys T K:=tM
 (fun g hn=>ak ac aa pD ah (HA _ _) (by rw [lh g hn];exact ⟨⟨⟨g,hn⟩,by decide,by decide⟩,rfl,rfl⟩))
 (fun tok g hn hb hne=>ak ac aa pD ah (J2 _ tok _ _) (by rw [lh g hn];exact ⟨⟨⟨⟨g,hn⟩,by decide,by decide⟩,hb,hne⟩,rfl,rfl⟩))
theorem C4:∀ro ys T K,jb .u32 4 ro ys T K→VCx Tryz.prog ae ro qT ys T K:=tM
 (fun g hn=>ak ac aa pD ah (HD _ _) (by rw [lh g hn];exact ⟨⟨⟨g,hn⟩,by decide,by decide⟩,rfl,rfl⟩))
 (fun tok g hn hb hne=>ak ac aa pD ah (J3 _ tok _ _) (by rw [lh g hn];exact ⟨⟨⟨⟨g,hn⟩,by decide,by decide⟩,hb,hne⟩,rfl,rfl⟩))
theorem M8:∀ro ys T K,Gc ro ys T K→VCx Tryz.prog ae ro qQ ys T K:=by
 intro ro ys T K hw
 unfold Gc at hw
 split at hw
 ·obtain ⟨⟨h1,h2⟩,hk⟩:=hw
  refine VCx.liftPure ap (Hu _ h1) rfl (fun _ _=>rfl) ?_
  rw [h2];exact hk
 ·exact hw.elim
theorem J7 {n:Int} (h0:0≤n) (h1:n≤32):IntKind.u8.wrap n=n:=by
 simp only [IntKind.wrap,IntKind.bits,IntKind.signed];simp;omega
theorem J8 {n:Int} (h0:0≤n) (h1:n≤32):IntKind.i64.wrap (Int.tdiv (IntKind.i64.wrap (IntKind.i64.wrap (n+8)-1)) 8)=(n+7)/8:=by
 rw [fj (z:=n+8) (by omega) (by omega),fj (z:=n+8-1) (by omega) (by omega),show n+8-1=n+7 by omega,Int.tdiv_eq_ediv_of_nonneg (by omega),fj (by omega) (by omega)]
theorem w5 {a n:Int} (h0:0≤n) (h1:n≤32):IsB (ky a n):=by
 obtain ⟨⟨l,hl,hz⟩,hlen⟩:=(dd (k:=4) a (by decide)).take (sw n)
 refine ⟨⟨n::l,by unfold ky;rw [hl];rfl,fun z h=> ?_⟩,by unfold ky;simp only [List.length_cons,List.length_take,co];omega⟩
 rcases List.mem_cons.1 h with rfl | h
 ·omega
 ·exact hz z h
theorem HF {a n:Int} (h:wZ a n):VCx Tryz.prog ae 0 wY [.agg [.val (.int .u32 a), .val (.int .i64 n)]] ⟨[], []⟩ fun x T' =>x= .vec 1 (ky a n) .none∧T' =⟨[], []⟩:=by
 obtain ⟨⟨a0,a1⟩,⟨n0,n1⟩,hc⟩:=h
 have hS:aQ Tryz.prog ae (aw [(qT,jb .u32 4),(qQ,Gc)]):=aE fun p hp=>by
  rcases List.mem_cons.1 hp with rfl | hp;exact C4
  obtain rfl:=List.mem_singleton.1 hp;exact M8
 have hb:=w5 (a:=a) n0 n1
 have hl:(ky a n).length=1+(min (sw n) 4):=by unfold ky;simp only [List.length_cons,List.length_take,co];omega
 refine VCx.toLe (Q:=fun T' =>T' =⟨[], []⟩) (VCx.keepQ 0 0 (Nat.le_refl _) (Nat.le_refl _) (ak ac aa hS ah (J4 a n ((bh 4 a).take (sw n)) (ky a n) (0+((bh 4 a).take (sw n)).length) _) ⟨⟨⟨n0,n1⟩,hc⟩,rfl,⟨⟨a0,by omega⟩,by decide,by decide⟩,⟨rfl,rfl,rfl,trivial⟩,⟨rfl,rfl,rfl,trivial⟩, ?_, ?_, ?_,rfl⟩))
 ·rw [J8 n0 n1]
  have h:=oH (x:= .tmp 12) (i:= .tmp 15) (l:= [(12, .vec 1 (bh 4 a) .none),(15, .val (.int .i64 ((n+7)/8)))]) (b:=bh 4 a) (tok:= .none) (k:= .i64) (z:=(n+7)/8) (n:=sw n) rfl rfl (by omega) rfl (by rw [co];unfold sw;omega)
  exact h
 ·rw [J7 n0 n1]
  have h:=pC (ro:=0) (T:=⟨[.cells [.val (.int .u32 a), .val (.int .i64 n)], .cells [.val (.int .u32 a), .val (.int .i64 n)]], []⟩) (T1:=⟨[.cells [.val (.int .u32 a), .val (.int .i64 n)], .cells [.val (.int .u32 a), .val (.int .i64 n)]], [(0,1,false)]⟩) (s:= .tmp 9) (x:= .tmp 16) (l:= [(9, .vec 1 [bT n] .full),(16, .vec 1 ((bh 4 a).take (sw n)) .none)]) (es:= [bT n]) (es2:=(bh 4 a).take (sw n)) (k:=0) (n:=0) (bn:=false) rfl rfl (by simp only [List.length_cons,List.length_nil,List.length_take,co];omega)
  exact h
 ·simp only [TV.ren,hb.ren]
  exact .vec 1 _ _
theorem J9:∀ro ys T K,Ge ro ys T K→VCx Tryz.prog ae ro wY ys T K:=by
 intro ro ys T K hw
 unfold Ge at hw
 split at hw
 ·obtain ⟨h,hk⟩:=hw
  exact VCx.liftPure ap (HF h) rfl (fun f g=>by simp only [TV.ren,(w5 (a:=_) h.2.1.1 h.2.1.2).ren,Tok.ren]) hk
 ·exact hw.elim
def na (l:List (Int × Int)):Prop:=(∀p∈l,wZ p.1 p.2)∧l.length≤100000
def c8 (l:List (Int × Int)):Bs:=l.flatMap fun p=>ky p.1 p.2
theorem y8 {a n:Int}:(ky a n).length≤5:=by unfold ky;simp only [List.length_cons,List.length_take,co];omega
theorem fI:∀l:List (Int × Int),(c8 l).length≤5*l.length
 | []=>Nat.le_refl _
 | p::l=>by
  have:=fI l
  have h2:=y8 (a:=p.1) (n:=p.2)
  simp only [c8,List.flatMap_cons,List.length_append,List.length_cons] at this ⊢
  omega
theorem iI:∀{l:List (Int × Int)},na l→IsB (c8 l)
  | [],_=> .nil
  | p::l,h=>by
    have h1:=iI (l:=l) ⟨fun q hq=>h.1 q (List.mem_cons_of_mem _ hq),by have:=h.2;simp only [List.length_cons] at this;omega⟩
    obtain ⟨⟨m,hm,hz⟩,_⟩:=h1
    obtain ⟨⟨k,hk,hy⟩,_⟩:=w5 (a:=p.1) (h.1 p List.mem_cons_self).2.1.1 (h.1 p List.mem_cons_self).2.1.2
    have hl:=fI (p::l)
    have h2:=h.2
    refine ⟨⟨k++m, ?_,fun z h=> ?_⟩,by omega⟩
    · show ky p.1 p.2++c8 l=_
      rw [hk,hm,bV,bV,bV,List.map_append]
    · rcases List.mem_append.1 h with h | h
      · exact hy z h
      · exact hz z h
theorem C5 {l:List (Int × Int)} {j:Nat} (h:j<l.length):c8 (l.take (j+1))=c8 (l.take j)++ky l[j].1 l[j].2:=by
 unfold c8
 rw [List.take_add_one,List.getElem?_eq_getElem h,List.flatMap_append]
 simp
theorem y9 (objs:List VO) (A c:Bs) (h:A.length+c.length≤1000000) (s x:Nat) (hne:Nat.beq s x=false):aB Tryz.prog ae 0 ⟨objs, [(A.length,1,true)]⟩ (.call ⟨.builtin .append, #[.tmp s, .tmp x], #[94,94]⟩) [(s, .vec 1 A (.tail 0 A.length)),(x, .vec 1 c .none)] (.vec 1 (A++c) (.tail 0 (A++c).length)) ⟨objs, [((A++c).length,1,true)]⟩:=by
 have h:=pC (ro:=0) (T:=⟨objs, [(A.length,1,true)]⟩) (T1:=⟨objs, [(A.length,1,true)]⟩) (s:= .tmp s) (x:= .tmp x) (l:= [(s, .vec 1 A (.tail 0 A.length)),(x, .vec 1 c .none)]) (es:=A) (es2:=c) (k:=0) (n:=A.length) (bn:=true) (by simp [bb,bX,dW]) (by simp [bb,bX,hne,fp]) (by omega)
 rw [List.length_append]
 exact h
theorem w6 {x i:Operand} {l:List (Nat × TV)} {es:Bs} {tok:Tok} {k:IntKind} {z:Int} {cs:List TV} (hx:bb ae l x= .vec 2 es tok) (hz:bb ae l i= .val (.int k z)) (h0:0≤z) (he:es[z.toNat]?=some cs):ax Tryz.prog ae (.indexAddr 32 x i) l (.elt cs):=by
 obtain ⟨inf,i1,i2,i3,i4⟩:=qR
 exact gp (inf:=inf) Tryz.underlying32 i1 (by rw [i2];exact hx) hz h0 he
theorem Fm {l:List (Int × Int)} (hl:na l):eP Tryz.prog ae (NT (c8 l) (l.map cj) (am Tryz.prog kx 0)):=aL fun p hp=>by
  obtain rfl:=List.mem_singleton.1 hp
  have hS:aQ Tryz.prog ae (aw [(wY,Ge)]):=aE fun p hp=>by obtain rfl:=List.mem_singleton.1 hp;exact J9
  refine aS fun K hK=> ?_
  have htk:∀j,na (l.take j):=fun j=>⟨fun p hp=>hl.1 p (List.mem_of_mem_take hp),by have:=hl.2;rw [List.length_take];omega⟩
  refine bK (f:=kx) (id:=0) (by kernel_rfl) 18 C1 (fun j:Nat=>l.length-j) (fun j:Nat=>yY (c8 (l.take j)) (l.map cj) j) (fun j=>⟨[], [((c8 (l.take j)).length,1,true)]⟩) (fun j=>j≤l.length) 0 1 (fun _ _=>⟨Nat.le_refl _,Nat.le_refl _⟩)
    (fun e vs T=>e= .normal∧vs=yY (c8 l) (l.map cj) (l.map cj).length∧T=⟨[], [((c8 l).length,1,true)]⟩) (fun j hj=> ?_) 0 (Nat.zero_le _) K ?_
  · by_cases hlt:j<l.length
    · have hat:(l.map cj)[((j:Nat):Int).toNat]?=some (cj l[j]):=by rw [Int.toNat_natCast,List.getElem?_map,List.getElem?_eq_getElem hlt];rfl
      have hp:=hl.1 _ (List.getElem_mem hlt)
      have hb1:=fI (l.take j)
      have hb2:=y8 (a:=l[j].1) (n:=l[j].2)
      have hll:=hl.2
      rw [List.length_take] at hb1
      have ht:=y9 [.cells (cj l[j])] (c8 (l.take j)) (ky l[j].1 l[j].2) (by omega) 12 14 rfl
      rw [←C5 hlt] at ht
      refine aI ac aa hS ah (y7 (c8 (l.take j)) (c8 (l.take (j+1))) (l.map cj) l[j].1 l[j].2 j _) ?_
      refine aN (decide_eq_true (by rw [List.length_map];omega)) ⟨w6 rfl rfl (by omega) hat,hp,ht,rfl,rfl,j+1,hlt,by show l.length-(j+1)<l.length-j;omega, .inr ⟨rfl, ?_⟩⟩
      simp only [av,TV.ren,kr,(iI (htk (j+1))).ren,Tok.ren]
      rw [vB hlt (by omega)]
      rfl
    · have hj2:j=l.length:=by omega
      refine aI ac aa hS ah (y7 (c8 (l.take j)) [] (l.map cj) 0 0 j _) ?_
      subst hj2
      exact aH (decide_eq_false (by rw [List.length_map];omega)) ⟨rfl,rfl,rfl,by simp only [yY,List.length_map,List.take_length],by rw [List.take_length]⟩
  · rintro e vs T ⟨rfl,rfl,rfl⟩
    exact hK
theorem HG {l:List (Int × Int)} (hl:na l):VCx Tryz.prog ae 0 kx [.vec 2 (l.map cj) .none] ⟨[], []⟩ fun x T' =>x= .vec 1 (c8 l) .none∧T' =⟨[], []⟩:=by
 refine VCx.toLe (Q:=fun T' =>T' =⟨[], []⟩) (VCx.keepQ 0 0 (Nat.le_refl _) (Nat.le_refl _) (ak ac aa ai (Fm hl) (J5 (c8 l) (l.map cj) _) ⟨rfl,⟨rfl,rfl,rfl,⟨rfl,trivial⟩,rfl,rfl,rfl⟩, ?_,rfl⟩))
 simp only [TV.ren,(iI hl).ren]
 exact .vec 1 _ _
def cP (z:Int):Bool:=decide (z≥1)&&decide (z≤65535)
theorem HH {l:List Int} (hn:l.length≤9223372036854775807):eP Tryz.prog ae (NU (iV l) (l.all cP) (am Tryz.prog qf 0)):=aL fun p hp=>by
  obtain rfl:=List.mem_singleton.1 hp
  refine aS fun K hK=> ?_
  refine bK (f:=qf) (id:=0) (by kernel_rfl) 19 yZ (fun j:Nat=>l.length-j) (fun j:Nat=>uQ (iV l) 0 j) (fun _=>⟨[], []⟩) (fun j=>j≤l.length∧(l.take j).all cP=true) 0 0 (fun _ _=>⟨Nat.le_refl _,Nat.le_refl _⟩)
    (fun e vs T=>T=⟨[], []⟩∧((e= .normal∧l.all cP=true∧vs=uQ (iV l) 0 (iV l).length)∨(e= .ret∧l.all cP=false∧∃z:Nat,vs=uQ (iV l) z z))) (fun j hj=> ?_) 0 ⟨Nat.zero_le _,rfl⟩ K ?_
  · obtain ⟨hj,hall⟩:=hj
    by_cases hlt:j<l.length
    · have hat:(iV l)[((j:Nat):Int).toNat]?=some (iT l[j]):=by rw [Int.toNat_natCast,iV,List.getElem?_map,List.getElem?_eq_getElem hlt];rfl
      have bad:cP l[j]=false→l.all cP=false:=fun h=>by
        cases hc:l.all cP
        · rfl
        · have:=List.all_eq_true.1 hc _ (List.getElem_mem hlt);rw [h] at this;cases this
      refine aI ac aa ai ah (C2 (iV l) l[j] j _) ?_
      refine aN (decide_eq_true (by rw [dv];omega)) ⟨gD rfl rfl (by omega) hat,aF (fun c1=>aF (fun c2=> ?_) (fun c2=> ?_)) (fun c1=> ?_)⟩
      · exact ⟨rfl,rfl,rfl, .inr ⟨rfl,bad (by unfold cP;rw [c1];cases h:decide (l[j]≤65535)<;>rw [h] at c2<;>first | rfl | cases c2),j,rfl⟩⟩
      · have c2:decide (l[j]≤65535)=true:=by cases h:decide (l[j]≤65535)<;>rw [h] at c2<;>first | rfl | cases c2
        refine ⟨rfl,rfl,j+1,⟨hlt, ?_⟩,by show l.length-(j+1)<l.length-j;omega, .inl ⟨rfl,by rw [sq hlt hn];rfl⟩⟩
        rw [List.take_add_one,List.getElem?_eq_getElem hlt,List.all_append,hall]
        simp only [Option.toList_some,List.all_cons,List.all_nil,Bool.and_true,Bool.true_and]
        unfold cP;rw [c1,c2];rfl
      · exact ⟨rfl,rfl,rfl, .inr ⟨rfl,bad (by unfold cP;rw [c1];rfl),j,rfl⟩⟩
    · have hj2:j=l.length:=by omega
      subst hj2
      rw [List.take_length] at hall
      refine aI ac aa ai ah (C2 (iV l) 0 l.length _) ?_
      exact aH (decide_eq_false (by rw [dv];omega)) ⟨rfl,rfl,rfl, .inl ⟨rfl,hall,by simp only [uQ,dv]⟩⟩
  · rintro e vs T ⟨rfl,⟨rfl,h1,rfl⟩ | ⟨rfl,h1,z,rfl⟩⟩
    · have:=hK 0;rw [h1] at this;exact this
    · have:=hK z;rw [h1] at this;exact this
end
--MbD
section
open Go.RowKit

def an (l:List (Int × Int)):Bs:=l.map cj
theorem za {l m:List Int} (hn:l.length≤9223372036854775807):eP Tryz.prog ae (J0 1 (iV l) (iV m) (decide (l=m)) (am Tryz.prog qg 0)):=aL fun p hp=>by
  obtain rfl:=List.mem_singleton.1 hp
  have hL:∀l:List Int,(iV l).length=l.length:=fun l=>List.length_map _
  refine aS fun K hK=> ?_
  obtain ⟨hlm,hK⟩:=hK
  rw [hL,hL] at hlm
  refine bK (f:=qg) (id:=0) (by kernel_rfl) 26 y0 (fun j:Nat=>l.length-j) (fun j:Nat=>uR 1 (iV l) (iV m) j) (fun _=>⟨[], []⟩) (fun j=>j≤l.length∧l.take j=m.take j) 0 0 (fun _ _=>⟨Nat.le_refl _,Nat.le_refl _⟩)
    (fun e vs T=>T=⟨[], []⟩∧((e= .normal∧l=m∧vs=uR 1 (iV l) (iV m) (iV l).length)∨(e= .ret∧l≠m∧∃z:Int,vs=uR 1 (iV l) (iV m) z))) (fun j hj=> ?_) 0 ⟨Nat.zero_le _,rfl⟩ K ?_
  · obtain ⟨hj,hall⟩:=hj
    by_cases hlt:j<l.length
    · have hlt2:j<m.length:=by omega
      have hat:(iV l)[((j:Nat):Int).toNat]?=some (iT l[j]):=by rw [Int.toNat_natCast];show (l.map _)[j]?=_;rw [List.getElem?_map,List.getElem?_eq_getElem hlt];rfl
      have hat2:(iV m)[((j:Nat):Int).toNat]?=some (iT m[j]):=by rw [Int.toNat_natCast];show (m.map _)[j]?=_;rw [List.getElem?_map,List.getElem?_eq_getElem hlt2];rfl
      refine aI ac aa ai ah (C3 (iV l) (iV m) l[j] m[j] j _) ?_
      refine aN (decide_eq_true (by rw [hL];omega)) ⟨gD rfl rfl (by omega) hat,gD rfl rfl (by omega) hat2, ?_⟩
      rw [lg]
      refine aF (fun c1=> ?_) (fun c1=> ?_)
      · refine ⟨rfl,rfl,rfl, .inr ⟨rfl,fun h=> ?_,j,rfl⟩⟩
        subst h
        simp at c1
      · refine ⟨rfl,rfl,j+1,⟨hlt, ?_⟩,by show l.length-(j+1)<l.length-j;omega, .inl ⟨rfl,by rw [sq hlt hn];rfl⟩⟩
        have he:l[j]=m[j]:=by simpa using c1
        rw [List.take_add_one,List.getElem?_eq_getElem hlt,List.take_add_one,List.getElem?_eq_getElem hlt2,hall,he]
    · have hj2:j=l.length:=by omega
      subst hj2
      rw [List.take_length,hlm,List.take_length] at hall
      refine aI ac aa ai ah (C3 (iV l) (iV m) 0 0 l.length _) ?_
      exact aH (decide_eq_false (by rw [hL];omega)) ⟨rfl,rfl,rfl, .inl ⟨rfl,hall,by simp only [uR,hL]⟩⟩
  · rintro e vs T ⟨rfl,⟨rfl,h1,rfl⟩ | ⟨rfl,h1,z,rfl⟩⟩
    · have:=hK 0;rw [decide_eq_true h1] at this;exact this
    · have:=hK z;rw [decide_eq_false h1] at this;exact this
theorem Ka {l m:List Int} (hn:l.length≤9223372036854775807):VCx Tryz.prog ae 0 qg [.vec 1 (iV l) .none, .vec 1 (iV m) .none] ⟨[], []⟩ fun x T' =>x= .val (.bool (decide (l=m)))∧T' =⟨[], []⟩:=by
  have hL:∀l:List Int,(iV l).length=l.length:=fun l=>List.length_map _
  refine VCx.keepQ 0 0 (Nat.le_refl _) (Nat.le_refl _) ?_
  by_cases hlm:l.length=m.length
  · refine ak ac aa ai (za hn) (Gf (iV l) (iV m) _ _) ?_
    rw [lg,hL,hL]
    refine aH (by rw [decide_eq_true (by omega)];rfl) ⟨rfl,⟨rfl,rfl,rfl,trivial,rfl,rfl,by rw [←hL l]⟩,hlm,fun z=> ?_⟩
    by_cases h:l=m
    · rw [decide_eq_true h];exact ⟨rfl,rfl⟩
    · rw [decide_eq_false h];exact ⟨rfl,rfl⟩
  · have hne:l≠m:=fun h=>hlm (by rw [h])
    refine ak ac aa ai (za hn) (Gf (iV l) (iV m) _ _) ?_
    rw [lg,hL,hL]
    exact aN (by rw [decide_eq_false (by omega)];rfl) ⟨by rw [decide_eq_false hne];rfl,rfl⟩
end
--MbE
section
open Go.RowKit

def Ba (fl t:Int) (v:Bs):List TV:= [.val (.int .i64 fl), .val (.int .i64 t), .vec 1 v .none]
def uS (b:Bs):List Int:=b.map Of
def oI (b:Bs):Bool:= !(uS b).all cP
def zb (a b:Bs):Bool:=decide (uS a=uS b)
def lN (b:Bs):Prop:=Oi b
def Kb (fl t:Int) (v:Bs):Prop:=ku fl t v
def Kc (fl t:Int) (v:Bs):Bs:=ep fl t v
def OJ:List TV→Bs
 | [.val (.int _ fl), .val (.int _ t), .vec _ v _]=>ep fl t v
 | _=> []
def Kd (L:Bs):Bs:=L.flatMap OJ
def w7 (L v:Bs):Prop:=v=Kd L
def Bb (L:Bs):Prop:=∃l:List (Int × Int × Bs),L=l.map (fun r=>Ba r.1 r.2.1 r.2.2)∧l.length≤10∧∀r∈l,ku r.1 r.2.1 r.2.2∧r.2.2.length≤1000
def Ke (b:Bs):Prop:=∃l:List Int,b=iV l∧l.length≤16∧l.all cP=true
def gR (l:List Int):Bs:=l.flatMap fun z=>bh 2 z
def gq (b:Bs):Bs:=bif b.isEmpty then [] else bh 1 2++bh 1 b.length++gR (uS b)
structure AtV where
 o:Int
 p:List Int
 h:Int
 m:Int
 hm:Bool
 deriving DecidableEq
def AtV.cells (a:AtV):List TV:= [.val (.int .i64 a.o), .vec 1 (iV a.p) .none, .val (.int .u32 a.h), .val (.int .i64 a.m), .val (.bool a.hm)]
def cX (a:AtV):Bool:=decide (0≤a.o)&&(decide (a.o≤2)&&(m7 a.h&&(decide (a.p.length≤16)&&(a.p.all cP&&(bif a.hm then decide (0≤a.m)&&decide (a.m≤4294967295) else decide (a.m=0))))))
def tN (l:List TV) (ok:Bool):Prop:=∃a:AtV,l=a.cells∧a.p.length≤9223372036854775807∧ok=cX a
abbrev C6:=51
abbrev oJ:=91
abbrev oK:=93
abbrev sx:=34
abbrev C7:=75
abbrev oL:=23
def Kf:aM:=fun _ ys T K=>match ys with
 | [.vec 1 l _, .fn (.func 52) [] []]=>lN l∧bif oI l then ∀z:Nat,K (.val (.int .i64 (Int.ofNat z))) T else K (.val (.int .i64 (-1))) T
 | _=>ay 84 default ys
def Gi:aM:=fun _ ys T K=>match ys with
 | [.vec 1 l _, .fn (.func 52) [] []]=>lN l∧K (.val (.bool (oI l))) T
 | _=>ay 84 default ys
def Bc:aM:=fun _ ys T K=>match ys with
 | [.agg [.val (.int .i64 fl), .val (.int .i64 t), .vec 1 v .none]]=>Kb fl t v∧K (.vec 1 (Kc fl t v) .none) T
 | _=>ay 84 default ys
def Gj:aM:=fun _ ys T K=>match ys with
 | [.vec 3 l _]=>Bb l∧∀v:Bs,w7 l v→K (.vec 1 v .none) T
 | _=>ay 84 default ys
def Gk:aM:=fun _ ys T K=>match ys with
 | [.vec 1 l _]=>Ke l∧K (.vec 1 (gq l) .none) T
 | _=>ay 84 default ys
def uT (ok:Bool):aM:=fun _ ys T K=>match ys with
 | [.agg l]=>tN l ok∧K (.val (.bool ok)) T
 | _=>ay 84 default ys
def Kg:aM:=fun _ ys T K=>match ys with
 | [.vec 1 l _, .vec 1 m _]=>(lN l∧lN m)∧K (.val (.bool (zb l m))) T
 | _=>ay 84 default ys
def C8:List Nat:= [3,13,14,15]
def w8 (B l:Bs) (j:Int):List TV:= [.vec 1 B .none, .vec 1 l .none, .val (.int .i64 l.length), .val (.int .i64 j)]
def NV (B0 B l:Bs) (c0:Code):Nat→Option (br × Code):=bv [(0,bN 24 C8 [] (w8 B0 l 0) ⟨[], []⟩ fun K=>K .normal (aj 24 C8 (w8 B l l.length)) ⟨[], []⟩ [],c0)]
def C9:List Nat:= [3,6,7,8]
def zc (B L:Bs) (j:Int):List TV:= [.vec 1 B (.tail 0 B.length), .vec 3 L .none, .val (.int .i64 L.length), .val (.int .i64 j)]
def NW (B L:Bs) (c0:Code):Nat→Option (br × Code):=bv [(0,vA 18 C9 [(3,1)] [6] (zc [] L 0) ⟨[], [(0,1,true)]⟩ fun K=>K .normal (aj 18 C9 (zc B L L.length)) ⟨[], [(B.length,1,true)]⟩ [],c0)]
theorem M9 (l:Bs) (Q:TV→VT→Prop):aq Tryz.prog ae (aw [(qf,Kf)]) aY 300 aD 0 C6 [.vec 1 l .none, .fn (.func 52) [] []] ⟨[], []⟩ Q=
 (lN (l)∧
 (bif oI l
 then (∀z:Nat,Q (.val (.bool true)) ⟨[], []⟩)
 else Q (.val (.bool false)) ⟨[], []⟩)):=by kernel_rfl
theorem Na (B0 B l:Bs) (Q:TV→VT→Prop):aq Tryz.prog ae (aw [(uP,jb .i64 1),(kw,jb .i64 2)]) aY 300 (NV B0 B l (am Tryz.prog oJ 0)) 0 oJ [.vec 1 l .none] ⟨[], []⟩ Q=
 (bif aG BinOp.eql (ar (Value.int IntKind.i64 (↑(List.length l):Int)) (Value.int IntKind.i64 (0:Int)))
 then Q (.val (.slice .none 0 0)) ⟨[], []⟩
 else ((@Eq (IntKind) .i64 .i64)∧
 (eY 2 1∧
 ((@Eq (IntKind) .i64 .i64)∧
 ((eY ((↑(List.length l):Int)) 1∧
 qh (bh (1:Int) (2:Int)))∧
 ((am Tryz.prog oJ (0:Nat)=am Tryz.prog oJ (0:Nat))∧
 (((@Eq (Option Nat) .none .none)∧
 ((@Eq (Nat) 0 0)∧
 ((@Eq (List Nat) [] [])∧
 (True  ∧
 ((@Eq (VT) ⟨[], []⟩ ⟨[], []⟩)∧
 ((@Eq (Bool) true true)∧
 (@Eq (List TV) [(.vec 1 (bh (1:Int) (2:Int)++bh (1:Int) (↑(List.length l):Int)) .none),(.vec 1 (l) .none),(.val (.int .i64 ((↑(List.length l):Int)))),(.val (.int .i64 0))] [(.vec 1 (B0) .none),(.vec 1 (l) .none),(.val (.int .i64 ((↑(List.length l):Int)))),(.val (.int .i64 0))])))))))∧
 Q (.vec 1 (B) .none) ⟨[], []⟩))))))):=by kernel_rfl
theorem Da (B l:Bs) (z:Int) (j:Nat) (Q:Exit→List TV→VT→List Nat→Nat→Prop):vx Tryz.prog ae (aw [(uP,jb .i64 1),(kw,jb .i64 2)]) (aA [(17, .elt [.val (.int .i64 z)],none)]) 300 aD none 0 (bd Tryz.prog oJ 0) (aj 24 C8 (w8 B l j)) ⟨[], []⟩ [] (bA C8 Q)=
 (bif decide ((↑j:Int)<(↑(List.length l):Int))
 then (ax Tryz.prog (fun _=> .none) (.indexAddr 33 (.tmp 13) (.tmp 15)) [(13,(.vec 1 (l) .none)),(15,(.val (.int .i64 ((↑j:Int)))))] (.elt [(.val (.int .i64 (z)))])∧
 ((@Eq (IntKind) .i64 .i64)∧
 ((eY (z) 2∧
 qh (B))∧
 Q .normal [(.vec 1 (B++bh (2:Int) z) .none),(.vec 1 (l) .none),(.val (.int .i64 ((↑(List.length l):Int)))),(.val (.int .i64 (IntKind.wrap IntKind.i64 ((↑j:Int)+(1:Int)))))] ⟨[], []⟩ [] 24)))
 else Q (.exit 0) [(.vec 1 (B) .none),(.vec 1 (l) .none),(.val (.int .i64 ((↑(List.length l):Int)))),(.val (.int .i64 ((↑j:Int))))] ⟨[], []⟩ [] 24):=by kernel_rfl
theorem Nb (B L:Bs) (Q:TV→VT→Prop):aq Tryz.prog ae aR aY 300 (NW B L (am Tryz.prog oK 0)) 0 oK [.vec 3 L .none] ⟨[], []⟩ Q=
 ((am Tryz.prog oK (0:Nat)=am Tryz.prog oK (0:Nat))∧
 (((@Eq (Option Nat) .none .none)∧
 ((@Eq (Nat) 0 0)∧
 ((@Eq (List Nat) [] [])∧
 (((@Eq (Option TV) (.some (.val (.slice .none 0 0))) (.some (.val (.slice .none 0 0))))∧
 True)∧
 ((@Eq (VT) ⟨[], [(0,(1,true))]⟩ ⟨[], [(0,(1,true))]⟩)∧
 ((@Eq (Bool) true true)∧
 (@Eq (List TV) [(.vec 1 [] (.tail 0 0)),(.vec 3 (L) .none),(.val (.int .i64 ((↑(List.length L):Int)))),(.val (.int .i64 0))] [(.vec 1 [] (.tail 0 0)),(.vec 3 (L) .none),(.val (.int .i64 ((↑(List.length L):Int)))),(.val (.int .i64 0))])))))))∧
 Q (.vec 1 (B) (.tail 0 (List.length B))) ⟨[], [((List.length B),(1,true))]⟩)):=by kernel_rfl
theorem Db (B B2 L v:Bs) (fl t:Int) (j:Nat) (Q:Exit→List TV→VT→List Nat→Nat→Prop):vx Tryz.prog ae (aw [(qS,Bc)]) (aA [(999999, .dead,none),(10, .elt (Ba fl t v),none),(15, .vec 1 B2 (.tail 0 B2.length),some fun T=>{T with tails:= [(B2.length,1,true)]})]) 300 aD none 0 (bd Tryz.prog oK 0) (aj 18 C9 (zc B L j)) ⟨[], [(B.length,1,true)]⟩ [] (bA C9 Q)=
 (bif decide ((↑j:Int)<(↑(List.length L):Int))
 then (ax Tryz.prog (fun _=> .none) (.indexAddr 130 (.tmp 6) (.tmp 8)) [(6,(.vec 3 (L) .none)),(8,(.val (.int .i64 ((↑j:Int)))))] (.elt [(.val (.int .i64 (fl))),(.val (.int .i64 (t))),(.vec 1 (v) .none)])∧
 (Kb (fl) (t) (v)∧
 (aB Tryz.prog (fun _=> .none) 0 ⟨[(.cells [(.val (.int .i64 (fl))),(.val (.int .i64 (t))),(.vec 1 (v) .none)])], [((List.length B),(1,true))]⟩ (.call ⟨(.builtin .append), #[(.tmp 12),(.tmp 14)], #[94,94]⟩) [(12,(.vec 1 (B) (.tail 0 (List.length B)))),(14,(.vec 1 (Kc fl t v) .none))] (.vec 1 (B2) (.tail 0 (List.length B2))) ⟨[(.cells [(.val (.int .i64 (fl))),(.val (.int .i64 (t))),(.vec 1 (v) .none)])], [((List.length B2),(1,true))]⟩∧
 Q .normal [(.vec 1 (B2) (.tail 0 (List.length B2))),(.vec 3 (L) .none),(.val (.int .i64 ((↑(List.length L):Int)))),(.val (.int .i64 (IntKind.wrap IntKind.i64 ((↑j:Int)+(1:Int)))))] ⟨[(.cells [(.val (.int .i64 (fl))),(.val (.int .i64 (t))),(.vec 1 (v) .none)])], [((List.length B2),(1,true))]⟩ [] 18)))
 else Q (.exit 0) [(.vec 1 (B) (.tail 0 (List.length B))),(.vec 3 (L) .none),(.val (.int .i64 ((↑(List.length L):Int)))),(.val (.int .i64 ((↑j:Int))))] ⟨[], [((List.length B),(1,true))]⟩ [] 18):=by kernel_rfl
theorem Nc (o h m:Int) (hm:Bool) (p:Bs) (Q:TV→VT→Prop):aq Tryz.prog ae (aw [(C6,Gi),(A8,A9)]) (aA [(999998, .dead,none)]) 300 aD 0 sx [.agg [.val (.int .i64 o), .vec 1 p .none, .val (.int .u32 h), .val (.int .i64 m), .val (.bool hm)]] ⟨[], []⟩ Q=
 (bif decide (o<(0:Int))
 then Q (.val (.bool false)) ⟨[(.cells [(.val (.int .i64 (o))),(.vec 1 (p) .none),(.val (.int .u32 (h))),(.val (.int .i64 (m))),(.val (.bool (hm)))])], []⟩
 else (bif decide (o>(2:Int))
 then (bif decide (o>(2:Int))
 then Q (.val (.bool false)) ⟨[(.cells [(.val (.int .i64 (o))),(.vec 1 (p) .none),(.val (.int .u32 (h))),(.val (.int .i64 (m))),(.val (.bool (hm)))])], []⟩
 else (bif decide ((↑(List.length p):Int)>(16:Int))
 then (bif decide ((↑(List.length p):Int)>(16:Int))
 then Q (.val (.bool false)) ⟨[(.cells [(.val (.int .i64 (o))),(.vec 1 (p) .none),(.val (.int .u32 (h))),(.val (.int .i64 (m))),(.val (.bool (hm)))])], []⟩
 else (bif !hm
 then Q (.val (.bool (aG BinOp.eql (ar (Value.int IntKind.i64 m) (Value.int IntKind.i64 (0:Int)))))) ⟨[(.cells [(.val (.int .i64 (o))),(.vec 1 (p) .none),(.val (.int .u32 (h))),(.val (.int .i64 (m))),(.val (.bool (hm)))])], []⟩
 else (bif decide (m≥(0:Int))
 then Q (.val (.bool (decide (m≤(4294967295:Int))))) ⟨[(.cells [(.val (.int .i64 (o))),(.vec 1 (p) .none),(.val (.int .u32 (h))),(.val (.int .i64 (m))),(.val (.bool (hm)))])], []⟩
 else Q (.val (.bool false)) ⟨[(.cells [(.val (.int .i64 (o))),(.vec 1 (p) .none),(.val (.int .u32 (h))),(.val (.int .i64 (m))),(.val (.bool (hm)))])], []⟩)))
 else (lN (p)∧
 (bif oI p
 then Q (.val (.bool false)) ⟨[(.cells [(.val (.int .i64 (o))),(.vec 1 (p) .none),(.val (.int .u32 (h))),(.val (.int .i64 (m))),(.val (.bool (hm)))])], []⟩
 else (bif !hm
 then Q (.val (.bool (aG BinOp.eql (ar (Value.int IntKind.i64 m) (Value.int IntKind.i64 (0:Int)))))) ⟨[(.cells [(.val (.int .i64 (o))),(.vec 1 (p) .none),(.val (.int .u32 (h))),(.val (.int .i64 (m))),(.val (.bool (hm)))])], []⟩
 else (bif decide (m≥(0:Int))
 then Q (.val (.bool (decide (m≤(4294967295:Int))))) ⟨[(.cells [(.val (.int .i64 (o))),(.vec 1 (p) .none),(.val (.int .u32 (h))),(.val (.int .i64 (m))),(.val (.bool (hm)))])], []⟩
 else Q (.val (.bool false)) ⟨[(.cells [(.val (.int .i64 (o))),(.vec 1 (p) .none),(.val (.int .u32 (h))),(.val (.int .i64 (m))),(.val (.bool (hm)))])], []⟩))))))
 else (bif !m7 h
 then Q (.val (.bool false)) ⟨[(.cells [(.val (.int .i64 (o))),(.vec 1 (p) .none),(.val (.int .u32 (h))),(.val (.int .i64 (m))),(.val (.bool (hm)))])], []⟩
 else (bif decide ((↑(List.length p):Int)>(16:Int))
 then (bif decide ((↑(List.length p):Int)>(16:Int))
 then Q (.val (.bool false)) ⟨[(.cells [(.val (.int .i64 (o))),(.vec 1 (p) .none),(.val (.int .u32 (h))),(.val (.int .i64 (m))),(.val (.bool (hm)))])], []⟩
 else (bif !hm
 then Q (.val (.bool (aG BinOp.eql (ar (Value.int IntKind.i64 m) (Value.int IntKind.i64 (0:Int)))))) ⟨[(.cells [(.val (.int .i64 (o))),(.vec 1 (p) .none),(.val (.int .u32 (h))),(.val (.int .i64 (m))),(.val (.bool (hm)))])], []⟩
 else (bif decide (m≥(0:Int))
 then Q (.val (.bool (decide (m≤(4294967295:Int))))) ⟨[(.cells [(.val (.int .i64 (o))),(.vec 1 (p) .none),(.val (.int .u32 (h))),(.val (.int .i64 (m))),(.val (.bool (hm)))])], []⟩
 else Q (.val (.bool false)) ⟨[(.cells [(.val (.int .i64 (o))),(.vec 1 (p) .none),(.val (.int .u32 (h))),(.val (.int .i64 (m))),(.val (.bool (hm)))])], []⟩)))
 else (lN (p)∧
 (bif oI p
 then Q (.val (.bool false)) ⟨[(.cells [(.val (.int .i64 (o))),(.vec 1 (p) .none),(.val (.int .u32 (h))),(.val (.int .i64 (m))),(.val (.bool (hm)))])], []⟩
 else (bif !hm
 then Q (.val (.bool (aG BinOp.eql (ar (Value.int IntKind.i64 m) (Value.int IntKind.i64 (0:Int)))))) ⟨[(.cells [(.val (.int .i64 (o))),(.vec 1 (p) .none),(.val (.int .u32 (h))),(.val (.int .i64 (m))),(.val (.bool (hm)))])], []⟩
 else (bif decide (m≥(0:Int))
 then Q (.val (.bool (decide (m≤(4294967295:Int))))) ⟨[(.cells [(.val (.int .i64 (o))),(.vec 1 (p) .none),(.val (.int .u32 (h))),(.val (.int .i64 (m))),(.val (.bool (hm)))])], []⟩
 else Q (.val (.bool false)) ⟨[(.cells [(.val (.int .i64 (o))),(.vec 1 (p) .none),(.val (.int .u32 (h))),(.val (.int .i64 (m))),(.val (.bool (hm)))])], []⟩)))))))):=by kernel_rfl
theorem Nd (o h m:Int) (hm ok:Bool) (p L4:Bs) (Q:TV→VT→Prop):aq Tryz.prog ae (aw [(sx,uT ok),(uP,jb .i64 1),(qT,jb .u32 4),(oJ,Gk),(oK,Gj)]) (aA [(999998, .dead,none),(29, .vec 3 L4 (.tail 0 1),some fun T=>{T with tails:= [(1,3,false)]})]) 300 aD 0 C7 [.agg [.val (.int .i64 o), .vec 1 p .none, .val (.int .u32 h), .val (.int .i64 m), .val (.bool hm)]] ⟨[], []⟩ Q=
 (tN [(.val (.int .i64 (o))),(.vec 1 (p) .none),(.val (.int .u32 (h))),(.val (.int .i64 (m))),(.val (.bool (hm)))] (ok)∧
 (bif !ok
 then Q (.val (.slice .none 0 0)) ⟨[(.cells [(.val (.int .i64 (o))),(.vec 1 (p) .none),(.val (.int .u32 (h))),(.val (.int .i64 (m))),(.val (.bool (hm)))])], []⟩
 else ((@Eq (IntKind) .i64 .i64)∧
 (eY (o) 1∧
 (((@Eq (Option TV) (.some (.val (.int .u32 (h)))) (.some (.val (.int .u32 (h)))))∧
 ((@Eq (Option TV) (.some (.vec 1 (p) .none)) (.some (.vec 1 (p) .none)))∧
 ((@Eq (Option TV) (.some (.val (.int .i64 (o)))) (.some (.val (.int .i64 (o)))))∧
 True)))∧
 (Ke (p)∧
 (((@Eq (Option TV) (.some (.val (.int .u32 (h)))) (.some (.val (.int .u32 (h)))))∧
 ((@Eq (Option TV) (.some (.vec 1 (p) .none)) (.some (.vec 1 (p) .none)))∧
 ((@Eq (Option TV) (.some (.val (.int .i64 (o)))) (.some (.val (.int .i64 (o)))))∧
 True)))∧
 ((@Eq (IntKind) .u32 .u32)∧
 (eY (h) 4∧
 (bif hm
 then ((@Eq (IntKind) .u32 .u32)∧
 (eY (IntKind.wrap IntKind.u32 m) 4∧
 (aB Tryz.prog (fun _=> .none) 0 ⟨[(.cells [(.val (.int .i64 (o))),(.vec 1 (p) .none),(.val (.int .u32 (h))),(.val (.int .i64 (m))),(.val (.bool (hm)))])], []⟩ (.call ⟨(.builtin .append), #[(.tmp 22),(.tmp 28)], #[130,130]⟩) [(22,(.vec 3 [[(.val (.int .i64 64)),(.val (.int .i64 1)),(.vec 1 (bh (1:Int) o) .none)], [(.val (.int .i64 64)),(.val (.int .i64 2)),(.vec 1 (gq p) .none)], [(.val (.int .i64 64)),(.val (.int .i64 3)),(.vec 1 (bh (4:Int) h) .none)]] .full)),(28,(.vec 3 [[(.val (.int .i64 128)),(.val (.int .i64 4)),(.vec 1 (bh (4:Int) (IntKind.wrap IntKind.u32 m)) .none)]] .full))] (.vec 3 (L4) (.tail 0 1)) ⟨[(.cells [(.val (.int .i64 (o))),(.vec 1 (p) .none),(.val (.int .u32 (h))),(.val (.int .i64 (m))),(.val (.bool (hm)))])], [(1,(3,false))]⟩∧
 (Bb (L4)∧
 (∀v:Bs,(w7 (L4) (v)→Q (.vec 1 (v) .none) ⟨[(.cells [(.val (.int .i64 (o))),(.vec 1 (p) .none),(.val (.int .u32 (h))),(.val (.int .i64 (m))),(.val (.bool (hm)))])], [(1,(3,false))]⟩))))))
 else (Bb [[(.val (.int .i64 64)),(.val (.int .i64 1)),(.vec 1 (bh (1:Int) o) .none)], [(.val (.int .i64 64)),(.val (.int .i64 2)),(.vec 1 (gq p) .none)], [(.val (.int .i64 64)),(.val (.int .i64 3)),(.vec 1 (bh (4:Int) h) .none)]]∧
 (∀v:Bs,(w7 [[(.val (.int .i64 64)),(.val (.int .i64 1)),(.vec 1 (bh (1:Int) o) .none)], [(.val (.int .i64 64)),(.val (.int .i64 2)),(.vec 1 (gq p) .none)], [(.val (.int .i64 64)),(.val (.int .i64 3)),(.vec 1 (bh (4:Int) h) .none)]] (v)→Q (.vec 1 (v) .none) ⟨[(.cells [(.val (.int .i64 (o))),(.vec 1 (p) .none),(.val (.int .u32 (h))),(.val (.int .i64 (m))),(.val (.bool (hm)))])], []⟩))))))))))))):=by kernel_rfl
theorem Nf (o h m o2 h2 m2:Int) (hm hm2:Bool) (p p2:Bs) (Q:TV→VT→Prop):aq Tryz.prog ae (aw [(qg,Kg)]) (aA [(999998, .dead,none)]) 300 aD 0 oL [.agg [.val (.int .i64 o), .vec 1 p .none, .val (.int .u32 h), .val (.int .i64 m), .val (.bool hm)], .agg [.val (.int .i64 o2), .vec 1 p2 .none, .val (.int .u32 h2), .val (.int .i64 m2), .val (.bool hm2)]] ⟨[], []⟩ Q=
 (bif aG BinOp.eql (ar (Value.int IntKind.i64 o) (Value.int IntKind.i64 o2))
 then (bif aG BinOp.eql (ar (Value.int IntKind.u32 h) (Value.int IntKind.u32 h2))
 then (bif aG BinOp.eql (ar (Value.int IntKind.i64 m) (Value.int IntKind.i64 m2))
 then (bif aG BinOp.eql (ar (Value.bool hm) (Value.bool hm2))
 then ((lN (p)∧
 lN (p2))∧
 Q (.val (.bool (zb p p2))) ⟨[(.cells [(.val (.int .i64 (o))),(.vec 1 (p) .none),(.val (.int .u32 (h))),(.val (.int .i64 (m))),(.val (.bool (hm)))]),(.cells [(.val (.int .i64 (o2))),(.vec 1 (p2) .none),(.val (.int .u32 (h2))),(.val (.int .i64 (m2))),(.val (.bool (hm2)))])], []⟩)
 else Q (.val (.bool false)) ⟨[(.cells [(.val (.int .i64 (o))),(.vec 1 (p) .none),(.val (.int .u32 (h))),(.val (.int .i64 (m))),(.val (.bool (hm)))]),(.cells [(.val (.int .i64 (o2))),(.vec 1 (p2) .none),(.val (.int .u32 (h2))),(.val (.int .i64 (m2))),(.val (.bool (hm2)))])], []⟩)
 else Q (.val (.bool false)) ⟨[(.cells [(.val (.int .i64 (o))),(.vec 1 (p) .none),(.val (.int .u32 (h))),(.val (.int .i64 (m))),(.val (.bool (hm)))]),(.cells [(.val (.int .i64 (o2))),(.vec 1 (p2) .none),(.val (.int .u32 (h2))),(.val (.int .i64 (m2))),(.val (.bool (hm2)))])], []⟩)
 else Q (.val (.bool false)) ⟨[(.cells [(.val (.int .i64 (o))),(.vec 1 (p) .none),(.val (.int .u32 (h))),(.val (.int .i64 (m))),(.val (.bool (hm)))]),(.cells [(.val (.int .i64 (o2))),(.vec 1 (p2) .none),(.val (.int .u32 (h2))),(.val (.int .i64 (m2))),(.val (.bool (hm2)))])], []⟩)
 else Q (.val (.bool false)) ⟨[(.cells [(.val (.int .i64 (o))),(.vec 1 (p) .none),(.val (.int .u32 (h))),(.val (.int .i64 (m))),(.val (.bool (hm)))]),(.cells [(.val (.int .i64 (o2))),(.vec 1 (p2) .none),(.val (.int .u32 (h2))),(.val (.int .i64 (m2))),(.val (.bool (hm2)))])], []⟩):=by kernel_rfl
end
--MbF
section
open Go.RowKit

theorem jc (l:List Int):uS (iV l)=l:=by
 unfold uS iV
 rw [List.map_map]
 exact (List.map_congr_left fun z _=>rfl).trans (List.map_id _)
theorem Dc {l:List Int} (hn:l.length≤9223372036854775807) (K:TV→VT→Prop) (hk:bif oI (iV l) then ∀z:Nat,K (.val (.int .i64 (Int.ofNat z))) ⟨[], []⟩ else K (.val (.int .i64 (-1))) ⟨[], []⟩):VCx Tryz.prog ae 0 qf [.vec 1 (iV l) .none, .fn (.func 52) [] []] ⟨[], []⟩ K:=by
 refine ak ac aa ai (HH hn) (M7 (iV l) (l.all cP) _) ⟨rfl,⟨rfl,rfl,rfl,trivial,rfl,rfl,rfl⟩,fun z=> ?_⟩
 unfold oI at hk
 rw [jc] at hk
 cases h:l.all cP<;>rw [h] at hk
 ·exact hk z
 ·exact hk
theorem Kh {l:List Int} (hn:l.length≤9223372036854775807):VCx Tryz.prog ae 0 C6 [.vec 1 (iV l) .none, .fn (.func 52) [] []] ⟨[], []⟩ fun x T' =>x= .val (.bool (oI (iV l)))∧T' =⟨[], []⟩:=by
 have hS:aQ Tryz.prog ae (aw [(qf,Kf)]):=aE fun p hp=>by
  obtain rfl:=List.mem_singleton.1 hp
  intro ro ys T K hw
  simp only at hw
  unfold Kf at hw
  split at hw
  ·rename_i b tok
   obtain ⟨⟨l,rfl,hn⟩,hk⟩:=hw
   cases h:oI (iV l) with
   | false=>
    rw [h,cond_false] at hk
    exact VCx.loosePure ap (y:= .val (.int .i64 (-1))) (Dc hn _ (by rw [h];exact ⟨rfl,rfl⟩)) (by simp [cB]) (by simp [av,TV.ren,dw,Tok.ren]) (fun _ _=>rfl) hk
   | true=>
    rw [h,cond_true] at hk
    exact VCx.looseAny ap (Y:=fun y=>∃z:Nat,y= .val (.int .i64 (Int.ofNat z))) (Dc hn _ (by rw [h,cond_true];exact fun z=>⟨⟨z,rfl⟩,rfl⟩)) (by simp [cB]) (by simp [av,TV.ren,dw,Tok.ren]) (fun y ⟨z,hz⟩ _ _=>by rw [hz];rfl) (fun y ⟨z,hz⟩=>by rw [hz];exact hk z)
  ·exact hw.elim
 refine VCx.keepQ 0 0 (Nat.le_refl _) (Nat.le_refl _) (ak ac aa hS ah (M9 (iV l) _) ⟨⟨l,rfl,hn⟩,aF (fun h _=>⟨by rw [h];rfl,rfl⟩) (fun h=>⟨by rw [h];rfl,rfl⟩)⟩)
theorem Ki:∀ro ys T K,Gi ro ys T K→VCx Tryz.prog ae ro C6 ys T K:=by
 intro ro ys T K hw
 unfold Gi at hw
 split at hw
 ·obtain ⟨⟨l,rfl,hn⟩,hk⟩:=hw
  exact VCx.loosePure ap (Kh hn) (by simp [cB]) (by simp [av,TV.ren,dw,Tok.ren]) (fun _ _=>rfl) hk
 ·exact hw.elim
theorem Fo {l:List Int} {j:Nat} (h:j<l.length):gR (l.take (j+1))=gR (l.take j)++bh 2 l[j]:=by
 unfold gR
 rw [List.take_add_one,List.getElem?_eq_getElem h,List.flatMap_append]
 simp
theorem jR:∀l:List Int,(gR l).length=2*l.length
 | []=>rfl
 | z::l=>by
  have:=jR l
  simp only [gR,List.flatMap_cons,List.length_append,List.length_cons,co] at this ⊢
  omega
theorem mp {a b:Bs} (h:IsB a) (k:IsB b) (hl:a.length+b.length≤1000000):IsB (a++b):=by
 obtain ⟨⟨l,rfl,hz⟩,_⟩:=h
 obtain ⟨⟨m,rfl,hy⟩,_⟩:=k
 refine ⟨⟨l++m,by simp [bV],fun z h=> ?_⟩,by rw [List.length_append];exact hl⟩
 rcases List.mem_append.1 h with h | h
 ·exact hz z h
 ·exact hy z h
theorem w9:∀{l:List Int},l.length≤100→IsB (gR l)
 | [],_=> .nil
 | z::l,h=>by
  have h1:=w9 (l:=l) (by simp only [List.length_cons] at h;omega)
  have h2:=jR l
  exact mp (b:=gR l) (dd (k:=2) z (by decide)) h1 (by rw [co,h2];simp only [List.length_cons] at h;have:Int.toNat 2=2:=rfl;omega)
def iq (n:Int):Bs:=bh 1 2++bh 1 n
theorem Dd (n:Int):IsB (iq n):=mp (dd 2 (by decide)) (dd n (by decide)) (by rw [co,co];decide)
theorem pE (n:Int):(iq n).length=2:=by unfold iq;rw [List.length_append,co,co];rfl
theorem De {l:List Int} (h:l.length≤16):IsB (iq l.length++gR l):=mp (Dd _) (w9 (by omega)) (by rw [pE,jR];omega)
theorem Fp:aQ Tryz.prog ae (aw [(uP,jb .i64 1),(kw,jb .i64 2)]):=aE fun p hp=>by
 rcases List.mem_cons.1 hp with rfl | hp;exact Gg
 obtain rfl:=List.mem_singleton.1 hp;exact J6
theorem HI {l:List Int} (hn:l.length≤16) (ha:l.all cP=true):eP Tryz.prog ae (NV (iq l.length) (iq l.length++gR l) (iV l) (am Tryz.prog oJ 0)):=aL fun p hp=>by
  obtain rfl:=List.mem_singleton.1 hp
  refine aS fun K hK=> ?_
  have htk:∀j,IsB (iq l.length++gR (l.take j)):=fun j=>mp (Dd _) (w9 (by rw [List.length_take];omega)) (by rw [pE,jR,List.length_take];omega)
  have h:=Hd (P:=Tryz.prog) (G:=ae) (f:=oJ) (id:=0) (by kernel_rfl) 24 C8 (fun j=>w8 (iq l.length++gR (l.take j.toNat)) (iV l) j) ⟨[], []⟩ l.length (fun e vs T=>e= .normal∧vs=w8 (iq l.length++gR l) (iV l) (iV l).length∧T=⟨[], []⟩) (fun j hj=> ?_) K (fun e vs T ⟨h1,h2,h3⟩=>by subst h1 h2 h3;exact hK)
  · have e:iq l.length++gR (l.take ((0:Nat):Int).toNat)=iq l.length:=List.append_nil _
    simp only [e] at h
    exact h
  · by_cases hlt:j<l.length
    · have hat:(iV l)[((j:Nat):Int).toNat]?=some (iT l[j]):=by rw [Int.toNat_natCast,iV,List.getElem?_map,List.getElem?_eq_getElem hlt];rfl
      have hz:=List.all_eq_true.1 ha _ (List.getElem_mem hlt)
      simp only [cP,Bool.and_eq_true,decide_eq_true_eq] at hz
      refine aI ac aa Fp ah (Da (iq l.length++gR (l.take j)) (iV l) l[j] j _) ?_
      refine aN (decide_eq_true (by rw [dv];omega)) ⟨gD rfl rfl (by omega) hat,rfl,⟨⟨⟨by omega,by omega⟩,by decide,by decide⟩,htk j,fun h=> ?_⟩,rfl,rfl,hlt, .inl ⟨rfl, ?_⟩⟩
      · have:=congrArg List.length h
        rw [List.length_append,pE] at this;simp at this
      · rw [vB hlt (by omega)]
        show _=w8 (iq l.length++gR (l.take (j+1))) (iV l) _
        rw [Fo hlt,←List.append_assoc]
        rfl
    · have hj2:j=l.length:=by omega
      subst hj2
      refine aI ac aa Fp ah (Da (iq l.length++gR (l.take l.length)) (iV l) 0 l.length _) ?_
      exact aH (decide_eq_false (by rw [dv];omega)) ⟨rfl,rfl,rfl,by simp only [w8,dv,List.take_length],rfl⟩
theorem Kj {l:List Int} (hn:l.length≤16) (ha:l.all cP=true):VCx Tryz.prog ae 0 oJ [.vec 1 (iV l) .none] ⟨[], []⟩ fun x T' =>x= .vec 1 (gq (iV l)) .none∧T' =⟨[], []⟩:=by
 refine VCx.toLe (Q:=fun T' =>T' =⟨[], []⟩) (VCx.keepQ 0 0 (Nat.le_refl _) (Nat.le_refl _) (ak ac aa Fp (HI hn ha) (Na (iq l.length) (iq l.length++gR l) (iV l) _) ?_))
 rw [nK,dv]
 cases l with
 | nil=>exact aN rfl ⟨.nil 1,rfl⟩
 | cons z l=>
  refine aH (decide_eq_false (by simp only [List.length_cons];omega)) ⟨rfl,⟨⟨by decide,by decide⟩,by decide,by decide⟩,rfl,⟨⟨⟨by omega,by omega⟩,by decide,by decide⟩,dd 2 (by decide),fun h=> ?_⟩,rfl,⟨rfl,rfl,rfl,trivial,rfl,rfl,rfl⟩, ?_,rfl⟩
  ·have:=congrArg List.length h;rw [co] at this;cases this
  ·have e:gq (iV (z::l))=iq (z::l).length++gR (z::l):=by
    unfold gq;rw [jc,dv];rfl
   rw [e]
   simp only [TV.ren,(De hn).ren,Tok.ren]
   exact .refl _
theorem Df {l:List Int} (hn:l.length≤16):IsB (gq (iV l))∧(gq (iV l)).length≤34:=by
 cases l with
 | nil=>exact ⟨.nil,Nat.zero_le _⟩
 | cons z l=>
  have e:gq (iV (z::l))=iq (z::l).length++gR (z::l):=by
   unfold gq;rw [jc,dv];rfl
  rw [e]
  exact ⟨De hn,by rw [List.length_append,pE,jR];omega⟩
theorem Kk:∀ro ys T K,Gk ro ys T K→VCx Tryz.prog ae ro oJ ys T K:=by
 intro ro ys T K hw
 unfold Gk at hw
 split at hw
 ·obtain ⟨⟨l,rfl,hn,ha⟩,hk⟩:=hw
  exact VCx.loosePure ap (Kj hn ha) (by simp [cB]) (by simp [av,TV.ren,dw,Tok.ren]) (fun f g=>by simp only [TV.ren,(Df hn).1.ren,Tok.ren]) hk
 ·exact hw.elim
end
--MbG
section
open Go.RowKit

abbrev nL:=Int × Int × Bs
def gt (r:nL):List TV:=Ba r.1 r.2.1 r.2.2
def eZ (l:List nL):Bs:=l.flatMap fun r=>ep r.1 r.2.1 r.2.2
theorem pF:∀l:List nL,Kd (l.map gt)=eZ l
 | []=>rfl
 | r::l=>by
  have:=pF l
  simp only [Kd,eZ,List.map_cons,List.flatMap_cons] at this ⊢
  rw [this];rfl
theorem zd {l:List nL} (h:∀r∈l,ku r.1 r.2.1 r.2.2∧r.2.2.length≤1000) (f g:Nat→Option Nat):bG f g (l.map gt)=l.map gt:=by
 induction l with
 | nil=>rfl
 | cons r l ih=>
  have hb:=(h r List.mem_cons_self).1.2.2.1
  rw [List.map_cons,bG,ih (fun q hq=>h q (List.mem_cons_of_mem _ hq))]
  simp only [gt,Ba,av,TV.ren,hb.ren,Tok.ren]
theorem tO (fl t:Int) (v:Bs):(ep fl t v).length≤v.length+4:=by
 unfold ep uO
 have:=(wW fl v).2
 cases mo fl<;>simp only [cond_true,cond_false,List.length_append,List.length_take,List.length_cons,List.length_nil]<;>omega
theorem pG:∀{l:List nL},(∀r∈l,ku r.1 r.2.1 r.2.2∧r.2.2.length≤1000)→(eZ l).length≤1004*l.length
 | [],_=>Nat.zero_le _
 | r::l,h=>by
  have h1:=pG (l:=l) fun q hq=>h q (List.mem_cons_of_mem _ hq)
  have h2:=(h r List.mem_cons_self).2
  have h3:=tO r.1 r.2.1 r.2.2
  simp only [eZ,List.flatMap_cons,List.length_append,List.length_cons] at h1 ⊢
  omega
theorem mq:∀{l:List nL},(∀r∈l,ku r.1 r.2.1 r.2.2∧r.2.2.length≤1000)→l.length≤10→IsB (eZ l)
 | [],_,_=> .nil
 | r::l,h,hl=>by
  have hq:∀q∈l,ku q.1 q.2.1 q.2.2∧q.2.2.length≤1000:=fun q hq=>h q (List.mem_cons_of_mem _ hq)
  simp only [List.length_cons] at hl
  have h1:=mq (l:=l) hq (by omega)
  obtain ⟨⟨_,_,hb,hv⟩,h2⟩:=h r List.mem_cons_self
  have h3:=tO r.1 r.2.1 r.2.2
  have h4:=pG hq
  exact mp (b:=eZ l) (sv (fl:=r.1) (t:=r.2.1) hb hv) h1 (by show (ep r.1 r.2.1 r.2.2).length+(eZ l).length≤_;omega)
theorem Fq {l:List nL} {j:Nat} (h:j<l.length):eZ (l.take (j+1))=eZ (l.take j)++ep l[j].1 l[j].2.1 l[j].2.2:=by
 unfold eZ
 rw [List.take_add_one,List.getElem?_eq_getElem h,List.flatMap_append]
 simp
theorem HJ:∀ro ys T K,Bc ro ys T K→VCx Tryz.prog ae ro qS ys T K:=by
 intro ro ys T K hw
 unfold Bc at hw
 split at hw
 ·rename_i fl t v
  obtain ⟨⟨h1,h2,hv,hl⟩,hk⟩:=hw
  have hb:=sv (fl:=fl) (t:=t) hv hl
  refine VCx.liftPure (xs:= [tK fl t v]) ap ?_ ?_ (fun f g=>by simp only [TV.ren,Kc,hb.ren,Tok.ren]) hk
  ·cases v with
   | nil=>exact Fk fl t
   | cons r v=>exact Hz fl t hv hl
  ·simp only [av,tK,TV.ren,hv.ren,Tok.ren]
 ·exact hw.elim
theorem uU:∃(inf:TypeInfo) (z:Value),Tryz.prog.info? 127=some inf∧inf.size=3∧inf.bytes+1≤1000∧inf.zero=some z∧z.cells.size=3:=
 ⟨(Tryz.prog.info? 127).getD default,((Tryz.prog.info? 127).getD default).zero.getD default,by kernel_rfl,by kernel_rfl,Nat.le_of_ble_eq_true (by kernel_rfl),by kernel_rfl,by kernel_rfl⟩
theorem Dg {x i:Operand} {l:List (Nat × TV)} {es:Bs} {tok:Tok} {k:IntKind} {z:Int} {cs:List TV} (hx:bb ae l x= .vec 3 es tok) (hz:bb ae l i= .val (.int k z)) (h0:0≤z) (he:es[z.toNat]?=some cs):ax Tryz.prog ae (.indexAddr 130 x i) l (.elt cs):=by
 obtain ⟨inf,_,i1,i2,_,_,_⟩:=uU
 exact gp (inf:=inf) Tryz.underlying130 i1 (by rw [i2];exact hx) hz h0 he
theorem HL {l:List nL} (h:∀r∈l,ku r.1 r.2.1 r.2.2∧r.2.2.length≤1000) (hl:l.length≤10):eP Tryz.prog ae (NW (eZ l) (l.map gt) (am Tryz.prog oK 0)):=aL fun p hp=>by
  obtain rfl:=List.mem_singleton.1 hp
  have hS:aQ Tryz.prog ae (aw [(qS,Bc)]):=aE fun p hp=>by obtain rfl:=List.mem_singleton.1 hp;exact HJ
  have hq:∀j,∀r∈l.take j,ku r.1 r.2.1 r.2.2∧r.2.2.length≤1000:=fun j r hr=>h r (List.mem_of_mem_take hr)
  refine qL fun K hK=> ?_
  refine bK (f:=oK) (id:=0) (by kernel_rfl) 18 C9 (fun j:Nat=>l.length-j) (fun j:Nat=>zc (eZ (l.take j)) (l.map gt) j) (fun j=>⟨[], [((eZ (l.take j)).length,1,true)]⟩) (fun j=>j≤l.length) 0 1 (fun _ _=>⟨Nat.le_refl _,Nat.le_refl _⟩)
    (fun e vs T=>e= .normal∧vs=zc (eZ l) (l.map gt) (l.map gt).length∧T=⟨[], [((eZ l).length,1,true)]⟩) (fun j hj=> ?_) 0 (Nat.zero_le _) K ?_
  · by_cases hlt:j<l.length
    · have hat:(l.map gt)[((j:Nat):Int).toNat]?=some (gt l[j]):=by rw [Int.toNat_natCast,List.getElem?_map,List.getElem?_eq_getElem hlt];rfl
      have hp:=h _ (List.getElem_mem hlt)
      have hb1:=pG (hq j)
      have hb2:=tO l[j].1 l[j].2.1 l[j].2.2
      rw [List.length_take] at hb1
      have ht:=y9 [.cells (gt l[j])] (eZ (l.take j)) (ep l[j].1 l[j].2.1 l[j].2.2) (by omega) 12 14 rfl
      rw [←Fq hlt] at ht
      refine aI ac aa hS ah (Db (eZ (l.take j)) (eZ (l.take (j+1))) (l.map gt) l[j].2.2 l[j].1 l[j].2.1 j _) ?_
      refine aN (decide_eq_true (by rw [List.length_map];omega)) ⟨Dg rfl rfl (by omega) hat,hp.1,ht,rfl,rfl,j+1,hlt,by show l.length-(j+1)<l.length-j;omega, .inr ⟨rfl, ?_⟩⟩
      simp only [av,TV.ren,zd h,(mq (hq (j+1)) (by rw [List.length_take];omega)).ren,Tok.ren]
      rw [vB hlt (by omega)]
      rfl
    · have hj2:j=l.length:=by omega
      refine aI ac aa hS ah (Db (eZ (l.take j)) [] (l.map gt) [] 0 0 j _) ?_
      subst hj2
      exact aH (decide_eq_false (by rw [List.length_map];omega)) ⟨rfl,rfl,rfl,by simp only [zc,List.length_map,List.take_length],by rw [List.take_length]⟩
  · rintro e vs T ⟨rfl,rfl,rfl⟩
    exact hK
theorem Kl {l:List nL} (h:∀r∈l,ku r.1 r.2.1 r.2.2∧r.2.2.length≤1000) (hl:l.length≤10):VCx Tryz.prog ae 0 oK [.vec 3 (l.map gt) .none] ⟨[], []⟩ fun x T' =>x= .vec 1 (eZ l) .none∧T' =⟨[], []⟩:=by
 refine VCx.toLe (Q:=fun T' =>T' =⟨[], []⟩) (VCx.keepQ 0 0 (Nat.le_refl _) (Nat.le_refl _) (ak ac aa ai (HL h hl) (Nb (eZ l) (l.map gt) _) ⟨rfl,⟨rfl,rfl,rfl,⟨rfl,trivial⟩,rfl,rfl,rfl⟩, ?_,rfl⟩))
 simp only [TV.ren,(mq h hl).ren]
 exact .vec 1 _ _
theorem Km:∀ro ys T K,Gj ro ys T K→VCx Tryz.prog ae ro oK ys T K:=by
 intro ro ys T K hw
 unfold Gj at hw
 split at hw
 ·obtain ⟨⟨l,rfl,hl,h⟩,hk⟩:=hw
  have hb:=mq h hl
  exact VCx.loosePure (xs:= [.vec 3 (l.map gt) .none]) ap (Kl h hl) (by simp [cB,gt]) (by simp only [av,TV.ren,zd h,Tok.ren]) (fun f g=>by simp only [TV.ren,hb.ren,Tok.ren]) (hk _ (pF l).symm)
 ·exact hw.elim
theorem AtV.ren (a:AtV) (f g:Nat→Option Nat):av f g a.cells=a.cells:=by
 simp only [AtV.cells,av,TV.ren,dw,Tok.ren]
theorem Kn:aQ Tryz.prog ae (aw [(C6,Gi),(A8,A9)]):=aE fun p hp=>by
 rcases List.mem_cons.1 hp with rfl | hp;exact Ki
 obtain rfl:=List.mem_singleton.1 hp;exact Hw Hv
set_option maxHeartbeats 1000000 in
theorem Ko (a:AtV) (hn:a.p.length≤9223372036854775807):VCx Tryz.prog ae 0 sx [.agg a.cells] ⟨[], []⟩ fun x T' =>x= .val (.bool (cX a))∧T' =⟨[], []⟩:=by
 refine VCx.keepQ 0 0 (Nat.le_refl _) (Nat.le_refl _) (ak ac aa Kn ah (Nc a.o a.h a.m a.hm (iV a.p) _) ?_)
 have hcf:oI (iV a.p)= !a.p.all cP:=by unfold oI;rw [jc]
 rw [nK,dv,hcf]
 have hw:lN (iV a.p):=⟨a.p,rfl,hn⟩
 have fin:∀(b:Bool) (T:VT),cX a=b→((TV.val (.bool b)).ren (au 0) (au 0)= .val (.bool (cX a))∧T.keep 0 0=⟨[], []⟩):=fun b T h=>⟨by rw [h];rfl,by simp [VT.keep]⟩
 by_cases h1:a.o<0
 ·exact aN (decide_eq_true h1) (fin false _ (by unfold cX;rw [decide_eq_false (show ¬0≤a.o by omega)];rfl))
 have e1:decide (0≤a.o)=true:=decide_eq_true (by omega)
 refine aH (decide_eq_false h1) ?_
 by_cases h2:a.o>2
 ·exact aN (decide_eq_true h2) (aN (decide_eq_true h2) (fin false _ (by unfold cX;rw [e1,decide_eq_false (show ¬a.o≤2 by omega)];rfl)))
 have e2:decide (a.o≤2)=true:=decide_eq_true (by omega)
 refine aH (decide_eq_false h2) ?_
 cases h3:m7 a.h
 ·exact aN rfl (fin false _ (by unfold cX;rw [e1,e2,h3];rfl))
 refine aH rfl ?_
 by_cases h4:((a.p.length:Nat):Int)>16
 ·exact aN (decide_eq_true h4) (aN (decide_eq_true h4) (fin false _ (by unfold cX;rw [e1,e2,h3,decide_eq_false (show ¬a.p.length≤16 by omega)];rfl)))
 have e4:decide (a.p.length≤16)=true:=decide_eq_true (by omega)
 refine aH (decide_eq_false h4) ⟨hw, ?_⟩
 cases h5:a.p.all cP
 ·exact aN rfl (fin false _ (by unfold cX;rw [e1,e2,h3,e4,h5];rfl))
 refine aH rfl ?_
 cases h6:a.hm
 ·exact aN rfl (fin _ _ (by unfold cX;rw [e1,e2,h3,e4,h5,h6];rfl))
 refine aH rfl (aF (fun h7=> ?_) (fun h7=> ?_))
 ·exact fin _ _ (by unfold cX;rw [e1,e2,h3,e4,h5,h6,show decide (0≤a.m)=true from h7];rfl)
 ·exact fin false _ (by unfold cX;rw [e1,e2,h3,e4,h5,h6,show decide (0≤a.m)=false from h7];rfl)
def ga (a:AtV):List nL:= [(64,1,bh 1 a.o),(64,2,gq (iV a.p)),(64,3,bh 4 a.h)]++bif a.hm then [(128,4,bh 4 a.m)] else []
def jp (a:AtV):Bs:=bif cX a then eZ (ga a) else []
structure NX (a:AtV):Prop where
 o:0≤a.o∧a.o≤2
 h:m7 a.h=true
 p:a.p.length≤16∧a.p.all cP=true
 m:a.hm=true→0≤a.m∧a.m≤4294967295
 m0:a.hm=false→a.m=0
theorem sy {a:AtV} (h:cX a=true):NX a:=by
 unfold cX at h
 simp only [Bool.and_eq_true,decide_eq_true_eq] at h
 obtain ⟨h1,h2,h3,h4,h5,h6⟩:=h
 refine ⟨⟨h1,h2⟩,h3,⟨h4,h5⟩,fun h=> ?_,fun h=> ?_⟩
 ·rw [h] at h6
  simp only [cond_true,Bool.and_eq_true,decide_eq_true_eq] at h6
  exact h6
 ·rw [h] at h6
  simp only [cond_false,decide_eq_true_eq] at h6
  exact h6
theorem xa {a:AtV} (h:NX a):(∀r∈ga a,ku r.1 r.2.1 r.2.2∧r.2.2.length≤1000)∧(ga a).length≤10:=by
 have b1:∀(fl t:Nat) (k n:Int),fl<256→t<256→k≤8→ku fl t (bh k n)∧(bh k n).length≤1000:=fun fl t k n h1 h2 h3=>⟨⟨⟨by omega,by omega⟩,⟨by omega,by omega⟩,dd n h3,by rw [co];omega⟩,by rw [co];omega⟩
 have hs:=Df h.p.1
 refine ⟨fun r hr=> ?_,by unfold ga;cases a.hm<;>simp⟩
 unfold ga at hr
 rcases List.mem_append.1 hr with hr | hr
 ·simp only [List.mem_cons,List.not_mem_nil,or_false] at hr
  rcases hr with rfl | rfl | rfl
  ·exact b1 64 1 1 _ (by decide) (by decide) (by decide)
  ·exact ⟨⟨⟨by show (0:Int)≤64;decide,by show (64:Int)<256;decide⟩,⟨by show (0:Int)≤2;decide,by show (2:Int)<256;decide⟩,hs.1,by have:=hs.2;show (gq (iV a.p)).length≤_;omega⟩,by have:=hs.2;show (gq (iV a.p)).length≤_;omega⟩
  ·exact b1 64 3 4 _ (by decide) (by decide) (by decide)
 ·cases hm:a.hm<;>rw [hm] at hr
  ·cases hr
  ·obtain rfl:=List.mem_singleton.1 hr
   exact b1 128 4 4 _ (by decide) (by decide) (by decide)
theorem xc (a:AtV):IsB (jp a):=by
 unfold jp
 cases h:cX a
 ·exact .nil
 ·have:=xa (sy h)
  exact mq this.1 this.2
theorem ze (a:AtV):(jp a).length≤10040:=by
 unfold jp
 cases h:cX a
 ·exact Nat.zero_le _
 ·have:=xa (sy h)
  have h2:=pG this.1
  have h3:=this.2
  simp only [cond_true];omega
theorem Fr (objs:List VO) (A c:Bs) (hc:A.length+c.length≤1000):aB Tryz.prog ae 0 ⟨objs, []⟩ (.call ⟨.builtin .append, #[.tmp 22, .tmp 28], #[130,130]⟩) [(22, .vec 3 A .full),(28, .vec 3 c .full)] (.vec 3 (A++c) (.tail 0 c.length)) ⟨objs, [(c.length,3,false)]⟩:=by
  obtain ⟨inf,z,i1,i2,i3,i4,i5⟩:=uU
  have h1:=fG (inf:=inf) (P:=Tryz.prog) (G:=ae) (ro:=0) (T:=⟨objs, []⟩) (T1:=⟨objs, [(0,3,false)]⟩) (t:=130) (tx:=130) (s:= .tmp 22) (x:= .tmp 28) (l:= [(22, .vec 3 A .full),(28, .vec 3 c .full)]) (es:=A) (es2:=c) (k:=0) (n:=0) (bn:=false) Tryz.underlying130 i1 i4 (by rw [i2];exact i5) (by rw [i2];decide) (by kernel_rfl)
    (by rw [i2];simp [bb,bX,dW]) (by rw [i2];rfl)
    (by have h1:=i3
        have h2:=Nat.mul_le_mul (show A.length+c.length≤2000001 by omega) h1
        omega)
  rw [i2,Nat.zero_add] at h1
  exact h1
theorem HN {n:Int} (h0:0≤n) (h1:n≤4294967295):IntKind.u32.wrap n=n:=by
 simp only [IntKind.wrap,IntKind.bits,IntKind.signed];simp;omega
theorem xd (ok:Bool):∀ro ys T K,uT ok ro ys T K→VCx Tryz.prog ae ro sx ys T K:=by
 intro ro ys T K hw
 unfold uT at hw
 split at hw
 ·obtain ⟨⟨a,rfl,hn,rfl⟩,hk⟩:=hw
  exact VCx.liftPure ap (Ko a hn) (by simp only [av,TV.ren,a.ren]) (fun _ _=>rfl) hk
 ·exact hw.elim
theorem Kp (a:AtV) (hn:a.p.length≤9223372036854775807) (hh:0≤a.h∧a.h<4294967296):VCx Tryz.prog ae 0 C7 [.agg a.cells] ⟨[], []⟩ fun x T' =>x= .vec 1 (jp a) .none∧T' =⟨[], []⟩:=by
  have hS:aQ Tryz.prog ae (aw [(sx,uT (cX a)),(uP,jb .i64 1),(qT,jb .u32 4),(oJ,Gk),(oK,Gj)]):=aE fun p hp=>by
    rcases List.mem_cons.1 hp with rfl | hp;exact xd _
    rcases List.mem_cons.1 hp with rfl | hp;exact Gg
    rcases List.mem_cons.1 hp with rfl | hp;exact C4
    rcases List.mem_cons.1 hp with rfl | hp;exact Kk
    obtain rfl:=List.mem_singleton.1 hp;exact Km
  refine VCx.toLe (Q:=fun T' =>T' =⟨[], []⟩) (VCx.keepQ 0 0 (Nat.le_refl _) (Nat.le_refl _) (ak ac aa hS ah (Nd a.o a.h a.m a.hm (cX a) (iV a.p) ((ga a).map gt) _) ⟨⟨a,rfl,hn,rfl⟩, ?_⟩))
  cases hg:cX a
  · refine aN rfl ⟨?_,by simp [VT.keep]⟩
    unfold jp;rw [hg];exact .nil 1
  · have hA:=sy hg
    have hr:=xa hA
    have hb:=mq hr.1 hr.2
    have e:jp a=eZ (ga a):=by unfold jp;rw [hg];rfl
    have hend:∀T:VT,TVle ((TV.vec 1 (eZ (ga a)) .none).ren (au 0) (au 0)) (.vec 1 (jp a) .none)∧T.keep 0 0=⟨[], []⟩:=fun T=>⟨by rw [e];simp only [TV.ren,hb.ren,Tok.ren];exact .refl _,by simp [VT.keep]⟩
    have hjd:Bb ((ga a).map gt):=⟨ga a,rfl,hr.2,hr.1⟩
    refine aH rfl ⟨rfl,⟨⟨hA.o.1,by have:=hA.o.2;omega⟩,by decide,by decide⟩,⟨rfl,rfl,rfl,trivial⟩,⟨a.p,rfl,hA.p.1,hA.p.2⟩,⟨rfl,rfl,rfl,trivial⟩,rfl,⟨⟨hh.1,by omega⟩,by decide,by decide⟩, ?_⟩
    cases hm:a.hm
    · have e2:(ga a).map gt= [[.val (.int .i64 64), .val (.int .i64 1), .vec 1 (bh 1 a.o) .none], [.val (.int .i64 64), .val (.int .i64 2), .vec 1 (gq (iV a.p)) .none], [.val (.int .i64 64), .val (.int .i64 3), .vec 1 (bh 4 a.h) .none]]:=by unfold ga;rw [hm];rfl
      rw [e2] at hjd
      refine aH rfl ⟨hjd,fun v hv=> ?_⟩
      rw [←e2] at hv
      unfold w7 at hv
      rw [pF] at hv
      subst hv
      exact hend _
    · have hm2:=hA.m hm
      refine aN rfl ⟨rfl, ?_⟩
      rw [HN hm2.1 hm2.2]
      have e2:(ga a).map gt= [[.val (.int .i64 64), .val (.int .i64 1), .vec 1 (bh 1 a.o) .none], [.val (.int .i64 64), .val (.int .i64 2), .vec 1 (gq (iV a.p)) .none], [.val (.int .i64 64), .val (.int .i64 3), .vec 1 (bh 4 a.h) .none]]++ [[.val (.int .i64 128), .val (.int .i64 4), .vec 1 (bh 4 a.m) .none]]:=by unfold ga;rw [hm];rfl
      refine ⟨⟨⟨hm2.1,by omega⟩,by decide,by decide⟩, ?_,hjd,fun v hv=> ?_⟩
      · rw [e2]
        exact Fr _ _ _ (by show 3+1≤1000;decide)
      · unfold w7 at hv
        rw [pF] at hv
        subst hv
        exact hend _
theorem Dh (a b:AtV) (hn:a.p.length≤9223372036854775807) (hn2:b.p.length≤9223372036854775807):VCx Tryz.prog ae 0 oL [.agg a.cells, .agg b.cells] ⟨[], []⟩ fun x T' =>x= .val (.bool (decide (a=b)))∧T' =⟨[], []⟩:=by
 have hS:aQ Tryz.prog ae (aw [(qg,Kg)]):=aE fun p hp=>by
  obtain rfl:=List.mem_singleton.1 hp
  intro ro ys T K hw
  simp only at hw
  unfold Kg at hw
  split at hw
  ·obtain ⟨⟨⟨l,rfl,hn⟩,⟨m,rfl,hn2⟩⟩,hk⟩:=hw
   have e:zb (iV l) (iV m)=decide (l=m):=by unfold zb;rw [jc,jc]
   rw [e] at hk
   exact VCx.loosePure ap (Ka hn) (by simp [cB]) (by simp [av,TV.ren,dw,Tok.ren]) (fun _ _=>rfl) hk
  ·exact hw.elim
 have e:zb (iV a.p) (iV b.p)=decide (a.p=b.p):=by unfold zb;rw [jc,jc]
 refine VCx.keepQ 0 0 (Nat.le_refl _) (Nat.le_refl _) (ak ac aa hS ah (Nf a.o a.h a.m b.o b.h b.m a.hm b.hm (iV a.p) (iV b.p) _) ?_)
 have fin:∀(q:Bool) (T:VT),decide (a=b)=q→((TV.val (.bool q)).ren (au 0) (au 0)= .val (.bool (decide (a=b)))∧T.keep 0 0=⟨[], []⟩):=fun b T h=>⟨by rw [h];rfl,by simp [VT.keep]⟩
 have ne:∀{X:Prop},(a=b→X)→¬X→decide (a=b)=false:=fun h k=>decide_eq_false fun c=>k (h c)
 rw [nK,nK,nK,e]
 refine aF (fun c1=>aF (fun c2=>aF (fun c3=>aF (fun c4=> ?_) (fun c4=> ?_)) (fun c3=> ?_)) (fun c2=> ?_)) (fun c1=> ?_)
 ·refine ⟨⟨⟨_,rfl,hn⟩,⟨_,rfl,hn2⟩⟩,fin _ _ ?_⟩
  have d1:=of_decide_eq_true c1
  have d2:=of_decide_eq_true c2
  have d3:=of_decide_eq_true c3
  have d4:a.hm=b.hm:=by simpa [aG,ar,ct] using c4
  refine decide_eq_decide.2 ⟨fun h=>by rw [h],fun hp=> ?_⟩
  obtain ⟨o,p,h,m,hm⟩:=a
  obtain ⟨o2,p2,h2,m2,hm2⟩:=b
  simp only [AtV.mk.injEq]
  exact ⟨d1,hp,d2,d3,d4⟩
 ·exact fin false _ (ne (X:=a.hm=b.hm) (fun h=>by rw [h]) (fun h=>by rw [h] at c4;simp [aG,ar,ct] at c4))
 ·exact fin false _ (ne (X:=a.m=b.m) (fun h=>by rw [h]) (of_decide_eq_false c3))
 ·exact fin false _ (ne (X:=a.h=b.h) (fun h=>by rw [h]) (of_decide_eq_false c2))
 ·exact fin false _ (ne (X:=a.o=b.o) (fun h=>by rw [h]) (of_decide_eq_false c1))
end
--MsFa
section
open Go.RowKit

abbrev zf:=76
abbrev xe:=94
def xf (n:Int) (y:TV) (T2:VT) (ro:Nat) (T:VT):Prop:=VCx Tryz.prog ae ro xe [.val (.slice none 0 0), .val (.int .i64 n)] T fun x T1=>x=y∧T1=T2
def Di (gy:TV) (gT:VT):aM:=fun ro ys T K=>match ys with
 | [.val (.slice none 0 0), .val (.int .i64 n)]=>xf n gy gT ro T∧K gy gT
 | _=>ay 84 default ys
def Kq (y1 y2:TV) (T1 T2:VT):List TV→Option (TV × Option VT)
 | [.row _ 0 _ _, .vec _ (_::_) _]=>some (y1,some T1)
 | [.row _ (_+1) _ _, .vec _ (_::_) _]=>some (y2,some T2)
 | _=>none
def Bd (y1 y2:TV) (T1 T2:VT):fq:=fun o σ _=>match o.dst with
 | some d=>bif Nat.beq d 33 then Kq y1 y2 T1 T2 σ else none
 | none=>none
theorem Ng (n:Int) (k:Nat) (W:List TV) (T:VT) (Q:TV→VT→Prop):aq Tryz.prog ae aR (aA [(22, .row 1 0 0 k,some fun T=>T.newRow W)]) 300 aD 0 xe [.val (.slice none 0 0), .val (.int .i64 n)] ⟨[], []⟩ Q=
 (bif decide (n<(0:Int))
 then False
 else (bif decide (IntKind.wrap IntKind.i64 (n-IntKind.wrap IntKind.i64 ((↑(0:Nat):Int)-(↑(0:Nat):Int)))>(0:Int))
 then (aB Tryz.prog (fun _=> .none) 0 ⟨[], []⟩ (.call ⟨(.builtin .append), #[(.tmp 20),(.tmp 21)], #[94,3]⟩) [(20,(.val (.slice .none 0 0))),(21,(.val (.int .i64 (IntKind.wrap IntKind.i64 (n-IntKind.wrap IntKind.i64 ((↑(0:Nat):Int)-(↑(0:Nat):Int)))))))] (.row 1 0 0 (k)) ⟨[(.row (W))], []⟩∧
 Q (.row 1 0 0 0) ⟨[(.row (W))], []⟩)
 else Q (.val (.slice .none 0 0)) ⟨[], []⟩)):=by kernel_rfl
end
--MsFb
section
open Go.RowKit

def zR (n:Nat):List TV:=(Builtin.zeroCells (Value.int .u8 0).cells n).toList.map .val
theorem Kr (n:Nat):(zR n).length=n:=by
 unfold zR
 rw [List.length_map,Array.length_toList,size_zeroCells]
 exact Nat.mul_one n
theorem Ks (f g:Nat→Option Nat) (n:Nat):av f g (zR n)=zR n:=nW _ _ _
theorem Kt {n:Int} (h0:0<n) (h1:n≤2000000):VCx Tryz.prog ae 0 xe [.val (.slice none 0 0), .val (.int .i64 n)] ⟨[], []⟩ fun x T1=>x= .row 1 0 0 0∧T1=⟨[.row (zR n.toNat)], []⟩:=by
 obtain ⟨inf,i1,i2,i3,i4⟩:=ko
 refine ak ac aa ai ah (Ng n n.toNat (zR n.toNat) ⟨[], []⟩ _) ?_
 have e:IntKind.wrap IntKind.i64 (n-IntKind.wrap IntKind.i64 (((0:Nat):Int)-((0:Nat):Int)))=n:=by
  rw [show IntKind.wrap IntKind.i64 (((0:Nat):Int)-((0:Nat):Int))=0 from rfl,Int.sub_zero,fj (by omega) (by omega)]
 refine aH (decide_eq_false (by omega)) (aN (decide_eq_true (by rw [e];exact h0)) ⟨?_,rfl,rfl⟩)
 rw [e]
 have h:=sg (P:=Tryz.prog) (G:=ae) (ro:=0) (T:=⟨[], []⟩) (t:=94) (tn:=3) (s:= .tmp 20) (x:= .tmp 21) (l:= [(20, .val (.slice none 0 0)),(21, .val (.int .i64 n))]) (inf:=inf) (m:=n) Tryz.underlying94 Tryz.underlying3 i1 i4 (by rw [i2];rfl) (by rw [i2];decide) rfl rfl rfl h0 (by rw [i3];omega)
 rw [i2] at h
 exact h
theorem Gl {n:Int} (h0:0<n) (h1:n≤2000000) (ro:Nat) (T:VT):xf n (.row 1 T.objs.length 0 0) {T with objs:=T.objs++ [.row (zR n.toNat)]} ro T:=by
 unfold xf
 refine (VCx.lift (T:=T) [] [] ap List.nodup_nil List.nodup_nil (by simp) (by simp) (by simp) rfl (by rw [VT.give_nil];exact Kt h0 h1) (fun _ _ _=>⟨Nat.zero_le _,Nat.zero_le _⟩)).mono ?_
 rintro z T' ⟨x,T'',⟨rfl,rfl⟩,rfl,rfl⟩
 refine ⟨by simp [TV.ren,ba], ?_⟩
 rw [VT.back_nil]
 simp [VO.ren,Ks]
theorem Ku {gy:TV} {gT:VT}:∀ro ys T K,Di gy gT ro ys T K→VCx Tryz.prog ae ro xe ys T K:=by
 intro ro ys T K hw
 unfold Di at hw
 split at hw
 ·obtain ⟨h,hk⟩:=hw
  exact VCx.mono h fun x T1 ⟨h1,h2⟩=>by subst h1 h2;exact hk
 ·exact hw.elim
theorem zg:∀l:List Int,(bV l).flatten=l.map OE
 | []=>rfl
 | z::l=>by
  have:=zg l
  simp only [bV,List.map_cons,List.flatten_cons] at this ⊢
  rw [this];rfl
theorem IsB.append {a b:Bs} (h:IsB a) (k:IsB b) (hl:(a++b).length≤1000000):IsB (a++b):=by
 obtain ⟨⟨l,rfl,hz⟩,_⟩:=h
 obtain ⟨⟨m,rfl,hy⟩,_⟩:=k
 refine ⟨⟨l++m,by simp [bV],fun z h=> ?_⟩,hl⟩
 rcases List.mem_append.1 h with h | h
 ·exact hz z h
 ·exact hy z h
theorem uV {w:Bs} (h:IsB w):w.flatten.length=w.length:=by
 obtain ⟨⟨l,rfl,_⟩,_⟩:=h
 rw [zg]
 simp [bV]
theorem Kv {gy:TV} {gT:VT}:aQ Tryz.prog ae (aw [(xe,Di gy gT)]):=aE fun p hp=>by
 obtain rfl:=List.mem_singleton.1 hp;exact Ku
end
--MbH
section
open Go.RowKit

abbrev xg:=33
abbrev oM:=101
abbrev oN:=88
abbrev lO:=100
abbrev xh:=87
abbrev xi:=74
abbrev Kw:=89
abbrev NY:=56
abbrev xj:=77
abbrev NZ:=57
def oO (n:Int):Int:=if (32:Int)<if (0:Int)>n then (0:Int) else n then (32:Int) else if (0:Int)>n then (0:Int) else n
def sA (a n:Int):Int:=CY a (oO n)
def dN (a n:Int):Bool:=decide (a=sA a n)&&decide (n=oO n)
def OK:List TV→Int × Int
 | [.val (.int _ a), .val (.int _ n)]=>(a,n)
 | _=>(0,0)
def Gm (l:Bs):List (Int × Int):=l.map OK
def oP (l:Bs):Prop:=∃p:List (Int × Int),l=an p∧p.length≤100000
def Be (l:Bs):Prop:=∃p:List (Int × Int),l=an p∧p.length≤2000000
def jq (l:Bs):Bool:= !(Gm l).all fun p=>dN p.1 p.2
def bm:AtV:=⟨0, [],0,0,false⟩
def Fs:List TV:= [.val (.int .i64 0), .val (.slice none 0 0), .val (.int .u32 0), .val (.int .i64 0), .val (.bool false)]
def xk (l m:List TV) (ok:Bool):Prop:=∃a:AtV,l=a.cells∧a.p.length≤9223372036854775807∧m=Fs∧ok=decide (a=bm)
def Ft (l m:List TV) (ok:Bool):Prop:=∃a b:AtV,(l=a.cells∧m=b.cells)∧(a.p.length≤9223372036854775807∧b.p.length≤9223372036854775807)∧ok=decide (a=b)
def Kx (l:List TV) (v:Bs):Prop:=∃a:AtV,l=a.cells∧a.p.length≤9223372036854775807∧(0≤a.h∧a.h<4294967296)∧v=jp a
def xl (l:Bs):Prop:=∃p:List (Int × Int),l=an p∧na p
def gS (l:Bs):Bs:=c8 (Gm l)
def tP (b:Bs):Prop:=IsB b∧b.length≤500000
def xm (a b c:Bs):Prop:=(IsB a∧a≠ [])∧(IsB b∧b≠ [])∧IsB c∧a.length+b.length+c.length≤1000000
structure UpV where
 w:List (Int × Int)
 a:AtV
 n:List (Int × Int)
 deriving DecidableEq
def UpV.cells (u:UpV):List TV:= [.vec 2 (an u.w) .none, .val (.int .i64 u.a.o), .vec 1 (iV u.a.p) .none, .val (.int .u32 u.a.h), .val (.int .i64 u.a.m), .val (.bool u.a.hm), .vec 2 (an u.n) .none]
def dO (u:UpV):Bool:=(u.w++u.n).all (fun p=>dN p.1 p.2)&&bif decide ((u.n.length:Int)>0) then cX u.a else decide (u.a=bm)
def oQ (u:UpV):Bs:=bif decide ((u.n.length:Int)>0) then jp u.a else []
def qi (u:UpV):Bs:=(bh 2 (c8 u.w).length++c8 u.w)++((bh 2 (oQ u).length++oQ u)++c8 u.n)
def ib (u:UpV):Prop:=u.w.length≤50000∧u.n.length≤50000∧u.a.p.length≤9223372036854775807∧0≤u.a.h∧u.a.h<4294967296
def jz (n:Int) (y:TV) (T2:VT) (ro:Nat) (T:VT):Prop:=VCx Tryz.prog ae ro oM [.val (.slice none 0 0), .val (.int .i64 n)] T fun x T1=>x=y∧T1=T2
def qU (gy:TV) (gT:VT):aM:=fun ro ys T K=>match ys with
 | [.val (.slice none 0 0), .val (.int .i64 n)]=>jz n gy gT ro T∧K gy gT
 | _=>ay 84 default ys
def Ky (y1 y2 y3:TV) (T1 T2 T3:VT):List TV→Option (TV × Option VT)
 | [.row _ 0 _ _, .vec _ (_::_) _]=>some (y1,some T1)
 | [.row _ 1 _ _, .vec _ (_::_) _]=>some (y2,some T2)
 | [.row _ (_+2) _ _, .vec _ (_::_) _]=>some (y3,some T3)
 | _=>none
def Gn (y1 y2 y3:TV) (T1 T2 T3:VT):fq:=fun o σ _=>match o.dst with
 | some d=>bif Nat.beq d 33 then Ky y1 y2 y3 T1 T2 T3 σ else none
 | none=>none
def sB:aM:=fun _ ys T K=>match ys with
 | [x, .val (.int .u64 n), .val (.int .i64 k)]=>match x with
  | .val (.slice none 0 0)=>eY n k∧K (.vec 1 (bh k n) (.tail T.tails.length 0)) {T with tails:=T.tails++ [(0,1,false)]}
  | .vec 1 b _=>(eY n k∧qh b)∧K (.vec 1 (b++bh k n) (.tail T.tails.length 0)) {T with tails:=T.tails++ [(0,1,false)]}
  | _=>ay 85 default ys
 | _=>ay 84 default ys
def xn (kd:IntKind) (k:Int):aM:=fun _ ys T K=>match ys with
 | [x, .val (.int q n)]=>(q=kd)∧match x with
  | .val (.slice none 0 0)=>eY n k∧K (.vec 1 (bh k n) (.tail T.tails.length 0)) {T with tails:=T.tails++ [(0,1,false)]}
  | .vec 1 b _=>(eY n k∧qh b)∧K (.vec 1 (b++bh k n) (.tail T.tails.length 0)) {T with tails:=T.tails++ [(0,1,false)]}
  | _=>ay 85 default ys
 | _=>ay 84 default ys
def qV:TV:= .fn (.func 33) [] []
def Fu:aM:=fun _ ys T K=>match ys with
 | [.agg [.val (.int .u32 a), .val (.int .i64 n)]]=>K (.agg [.val (.int .u32 (sA a n)), .val (.int .i64 (oO n))]) T
 | _=>ay 84 default ys
def zh:aM:=fun _ ys T K=>match ys with
 | [.agg [.val (.int .u32 a), .val (.int .i64 n)]]=>K (.val (.bool (dN a n))) T
 | _=>ay 84 default ys
def Fv:aM:=fun ro ys T K=>match ys with
 | [.vec 2 l _, .fn (.func 89) [] [.ptr i 0]]=>(((@Eq Bool (Nat.ble ro i) true)∧(@Eq (Option VO) (T.objs[i]?) (some (.cells [qV]))))∧Be l)∧bif jq l then ∀z:Nat,K (.val (.int .i64 (Int.ofNat z))) T else K (.val (.int .i64 (-1))) T
 | _=>ay 84 default ys
def Bf:aM:=fun ro ys T K=>match ys with
 | [.vec 2 l _, .fn (.func 89) [] [.ptr i 0]]=>(((@Eq Bool (Nat.ble ro i) true)∧(@Eq (Option VO) (T.objs[i]?) (some (.cells [qV]))))∧Be l)∧K (.val (.bool (jq l))) T
 | _=>ay 84 default ys
def Bg:aM:=fun _ ys T K=>match ys with
 | [.vec 1 [[.vec 2 a _], [.vec 2 b _]] _]=>(oP a∧oP b)∧K (.vec 2 (a++b) .none) T
 | _=>ay 84 default ys
def Bh:aM:=fun _ ys T K=>match ys with
 | [.fn (.func 33) [] [], .vec 1 [[.vec 2 a _], [.vec 2 b _]] _]=>(oP a∧oP b)∧K (.val (.bool (!jq (a++b)))) T
 | _=>ay 84 default ys
def zi (ok:Bool):aM:=fun _ ys T K=>match ys with
 | [.agg l, .agg m]=>xk l m ok∧K (.val (.bool ok)) T
 | _=>ay 84 default ys
def Dj (ok:Bool):aM:=fun _ ys T K=>match ys with
 | [.agg l, .agg m]=>Ft l m ok∧K (.val (.bool ok)) T
 | _=>ay 84 default ys
def Gp (v:Bs):aM:=fun _ ys T K=>match ys with
 | [.agg l]=>Kx l v∧K (.vec 1 v .none) T
 | _=>ay 84 default ys
def Gq:aM:=fun _ ys T K=>match ys with
 | [.vec 2 l _]=>xl l∧K (.vec 1 (gS l) .none) T
 | _=>ay 84 default ys
def Gs:aM:=fun _ ys T K=>match ys with
 | [.val (.slice none 0 0)]=>K (.vec 1 (bh 2 0) .none) T
 | [.vec 1 b _]=>tP b∧K (.vec 1 (bh 2 b.length++b) .none) T
 | _=>ay 84 default ys
def Bi:aM:=fun _ ys T K=>match ys with
 | [.vec 1 [[.vec 1 a _], [.vec 1 b _], [.vec 1 c _]] _]=>xm a b c∧K (.vec 1 (a++(b++c)) .none) T
 | _=>ay 84 default ys
def zj:List Nat:= [0,1,4,7,8]
def uW (l:Bs) (r j:Int):List TV:= [.vec 2 l .none, .fn (.func 89) [] [.ptr 0 0], .val (.int .i64 r), .val (.int .i64 l.length), .val (.int .i64 j)]
def oR:VT:=⟨[.cells [qV]], []⟩
def OL (l:Bs) (ok:Bool) (K:KX):Prop:=∀(z:Nat) (a n:Int),bif ok then K .normal (aj 19 zj (uW l 0 l.length)) oR [] else K .ret (aj 19 zj (uW l z z)) ⟨[.cells [qV], .cells [.val (.int .u32 a), .val (.int .i64 n)]], []⟩ []
def N0 (l:Bs) (ok:Bool) (c0:Code):Nat→Option (br × Code):=bv [(0,bN 19 zj [] (uW l 0 0) oR (OL l ok),c0)]
theorem HP (b:Bs) (tok:Tok) (n:Int) (Q:TV→VT→Prop):aq Tryz.prog ae (aw [(eG,sB)]) aY 300 aD 0 kw [.vec 1 b tok, .val (.int .i64 n)] ⟨[], []⟩ Q=
 ((eY (IntKind.wrap IntKind.u64 n) 2∧
 qh (b))∧
 Q (.vec 1 (b++bh (2:Int) (IntKind.wrap IntKind.u64 n)) (.tail 0 0)) ⟨[], [(0,(1,false))]⟩):=by kernel_rfl
theorem Fw (n:Int) (Q:TV→VT→Prop):aq Tryz.prog ae (aw [(eG,sB)]) aY 300 aD 0 kw [.val (.slice none 0 0), .val (.int .i64 n)] ⟨[], []⟩ Q=
 (eY (IntKind.wrap IntKind.u64 n) 2∧
 Q (.vec 1 (bh (2:Int) (IntKind.wrap IntKind.u64 n)) (.tail 0 0)) ⟨[], [(0,(1,false))]⟩):=by kernel_rfl
theorem Nh (a n:Int) (Q:TV→VT→Prop):aq Tryz.prog ae (aw [(qQ,Fu)]) (aA [(999998, .dead,none)]) 300 aD 0 xg [.agg [.val (.int .u32 a), .val (.int .i64 n)]] ⟨[], []⟩ Q=
 (((@Eq (Option TV) (.some (.agg [(.val (.int .u32 (a))),(.val (.int .i64 (n)))])) (.some (.agg [(.val (.int .u32 (a))),(.val (.int .i64 (n)))])))∧
 ((@Eq (Option TV) (.some (.agg [(.val (.int .u32 (a))),(.val (.int .i64 (n)))])) (.some (.agg [(.val (.int .u32 (a))),(.val (.int .i64 (n)))])))∧
 True))∧
 Q (.val (.bool (aG BinOp.eql (ar ((fun vs=>Value.agg (List.toArray vs)) ((fun x=>Value.int IntKind.u32 a::x) ((fun x=>Value.int IntKind.i64 n::x) []))) ((fun vs=>Value.agg (List.toArray vs)) ((fun x=>Value.int IntKind.u32 (sA a n)::x) ((fun x=>Value.int IntKind.i64 (oO n)::x) []))))))) ⟨[(.cells [(.val (.int .u32 (a))),(.val (.int .i64 (n)))])], []⟩):=by kernel_rfl
theorem Dk (n:Int) (k:Nat) (W:List TV) (T:VT) (Q:TV→VT→Prop):aq Tryz.prog ae aR (aA [(22, .row 2 0 0 k,some fun T=>T.newRow W)]) 300 aD 0 oM [.val (.slice none 0 0), .val (.int .i64 n)] ⟨[], []⟩ Q=
 (bif decide (n<(0:Int))
 then False
 else (bif decide (IntKind.wrap IntKind.i64 (n-IntKind.wrap IntKind.i64 ((↑(0:Nat):Int)-(↑(0:Nat):Int)))>(0:Int))
 then (aB Tryz.prog (fun _=> .none) 0 ⟨[], []⟩ (.call ⟨(.builtin .append), #[(.tmp 20),(.tmp 21)], #[32,3]⟩) [(20,(.val (.slice .none 0 0))),(21,(.val (.int .i64 (IntKind.wrap IntKind.i64 (n-IntKind.wrap IntKind.i64 ((↑(0:Nat):Int)-(↑(0:Nat):Int)))))))] (.row 2 0 0 (k)) ⟨[(.row (W))], []⟩∧
 Q (.row 2 0 0 0) ⟨[(.row (W))], []⟩)
 else Q (.val (.slice .none 0 0)) ⟨[], []⟩)):=by kernel_rfl
theorem HQ (q r:List TV) (a b:Bs) (k:Nat) (W:List TV) (tok tok1 tok2:Tok) (y2:TV) (T0 T1 T2:VT) (Q:TV→VT→Prop):aq Tryz.prog ae (aw [(oM,qU (.row 2 0 0 0) T0)]) (Bd (.row 2 1 0 k) y2 T1 T2) 300 aD 0 oN [.vec 1 [[.vec 2 (q::a) tok1], [.vec 2 (r::b) tok2]] tok] ⟨[], []⟩ Q=
 (bif decide (IntKind.wrap IntKind.i64 ((0:Int)+(↑(List.length (q::a)):Int))<(0:Int))
 then False
 else (bif decide (IntKind.wrap IntKind.i64 (IntKind.wrap IntKind.i64 ((0:Int)+(↑(List.length (q::a)):Int))+(↑(List.length (r::b)):Int))<(0:Int))
 then False
 else (jz (IntKind.wrap IntKind.i64 (IntKind.wrap IntKind.i64 ((0:Int)+(↑(List.length (q::a)):Int))+(↑(List.length (r::b)):Int))) (.row 2 0 0 0) (T0) 0 ⟨[], []⟩∧
 (aB Tryz.prog (fun _=> .none) 0 (T0) (.call ⟨(.builtin .append), #[(.tmp 31),(.tmp 32)], #[32,32]⟩) [(31,(.row 2 0 0 0)),(32,(.vec 2 ([(q)]++a) (tok1)))] (.row 2 1 0 (k)) (T1)∧
 (aB Tryz.prog (fun _=> .none) 0 (T1) (.call ⟨(.builtin .append), #[(.tmp 31),(.tmp 32)], #[32,32]⟩) [(31,(.row 2 1 0 (k))),(32,(.vec 2 ([(r)]++b) (tok2)))] (y2) (T2)∧
 Q (y2) (T2)))))):=by kernel_rfl
theorem Kz (q:List TV) (a:Bs) (k:Nat) (W:List TV) (tok tok1 tok2:Tok) (T1:VT) (Q:TV→VT→Prop):aq Tryz.prog ae (aw [(oM,qU (.row 2 0 0 0) ⟨[.row W], []⟩)]) (Bd (.row 2 1 0 k) .dead T1 T1) 300 aD 0 oN [.vec 1 [[.vec 2 (q::a) tok1], [.vec 2 [] tok2]] tok] ⟨[], []⟩ Q=
 (bif decide (IntKind.wrap IntKind.i64 ((0:Int)+(↑(List.length (q::a)):Int))<(0:Int))
 then False
 else (bif decide (IntKind.wrap IntKind.i64 (IntKind.wrap IntKind.i64 ((0:Int)+(↑(List.length (q::a)):Int))+(↑(0:Nat):Int))<(0:Int))
 then False
 else (jz (IntKind.wrap IntKind.i64 (IntKind.wrap IntKind.i64 ((0:Int)+(↑(List.length (q::a)):Int))+(↑(0:Nat):Int))) (.row 2 0 0 0) ⟨[(.row (W))], []⟩ 0 ⟨[], []⟩∧
 (aB Tryz.prog (fun _=> .none) 0 ⟨[(.row (W))], []⟩ (.call ⟨(.builtin .append), #[(.tmp 31),(.tmp 32)], #[32,32]⟩) [(31,(.row 2 0 0 0)),(32,(.vec 2 ([(q)]++a) (tok1)))] (.row 2 1 0 (k)) (T1)∧
 Q (.row 2 1 0 (k)) (T1))))):=by kernel_rfl
theorem KA (q:List TV) (a:Bs) (k:Nat) (W:List TV) (tok tok1 tok2:Tok) (T1:VT) (Q:TV→VT→Prop):aq Tryz.prog ae (aw [(oM,qU (.row 2 0 0 0) ⟨[.row W], []⟩)]) (Bd (.row 2 1 0 k) .dead T1 T1) 300 aD 0 oN [.vec 1 [[.vec 2 [] tok1], [.vec 2 (q::a) tok2]] tok] ⟨[], []⟩ Q=
 (bif decide (IntKind.wrap IntKind.i64 (IntKind.wrap IntKind.i64 ((0:Int)+(↑(0:Nat):Int))+(↑(List.length (q::a)):Int))<(0:Int))
 then False
 else (jz (IntKind.wrap IntKind.i64 (IntKind.wrap IntKind.i64 ((0:Int)+(↑(0:Nat):Int))+(↑(List.length (q::a)):Int))) (.row 2 0 0 0) ⟨[(.row (W))], []⟩ 0 ⟨[], []⟩∧
 (aB Tryz.prog (fun _=> .none) 0 ⟨[(.row (W))], []⟩ (.call ⟨(.builtin .append), #[(.tmp 31),(.tmp 32)], #[32,32]⟩) [(31,(.row 2 0 0 0)),(32,(.vec 2 ([(q)]++a) (tok2)))] (.row 2 1 0 (k)) (T1)∧
 Q (.row 2 1 0 (k)) (T1)))):=by kernel_rfl
theorem KB (tok tok1 tok2:Tok) (Q:TV→VT→Prop):aq Tryz.prog ae (aw [(oM,qU (.val (.slice none 0 0)) ⟨[], []⟩)]) aY 300 aD 0 oN [.vec 1 [[.vec 2 [] tok1], [.vec 2 [] tok2]] tok] ⟨[], []⟩ Q=
 (jz 0 (.val (.slice .none 0 0)) ⟨[], []⟩ 0 ⟨[], []⟩∧
 Q (.val (.slice .none 0 0)) ⟨[], []⟩):=by kernel_rfl
theorem Ni (l:Bs) (ok:Bool) (Q:TV→VT→Prop):aq Tryz.prog ae aR aY 300 (N0 l ok (am Tryz.prog lO 0)) 0 lO [.vec 2 l .none, .fn (.func 89) [] [.ptr 0 0]] oR Q=
 ((am Tryz.prog lO (0:Nat)=am Tryz.prog lO (0:Nat))∧
 (((@Eq (Option Nat) .none .none)∧
 ((@Eq (Nat) 0 0)∧
 ((@Eq (List Nat) [] [])∧
 (True  ∧
 ((@Eq (VT) ⟨[(.cells [(.fn (.func 33) [] [])])], []⟩ ⟨[(.cells [(.fn (.func 33) [] [])])], []⟩)∧
 ((@Eq (Bool) true true)∧
 (@Eq (List TV) [(.vec 2 (l) .none),(.fn (.func 89) [] [(.ptr 0 0)]),(.val (.int .i64 0)),(.val (.int .i64 ((↑(List.length l):Int)))),(.val (.int .i64 0))] [(.vec 2 (l) .none),(.fn (.func 89) [] [(.ptr 0 0)]),(.val (.int .i64 0)),(.val (.int .i64 ((↑(List.length l):Int)))),(.val (.int .i64 0))])))))))∧
 (∀z:Nat,(∀a:Int,(∀n:Int,(bif ok
 then Q (.val (.int .i64 (-1))) ⟨[(.cells [(.fn (.func 33) [] [])])], []⟩
 else Q (.val (.int .i64 ((↑z:Int)))) ⟨[(.cells [(.fn (.func 33) [] [])]),(.cells [(.val (.int .u32 (a))),(.val (.int .i64 (n)))])], []⟩)))))):=by kernel_rfl
theorem Dl (l:Bs) (a n:Int) (j:Nat) (Q:Exit→List TV→VT→List Nat→Nat→Prop):vx Tryz.prog ae (aw [(xg,zh)]) (aA [(999999, .dead,none),(14, .elt [.val (.int .u32 a), .val (.int .i64 n)],none)]) 300 aD none 0 (bd Tryz.prog lO 0) (aj 19 zj (uW l 0 j)) oR [] (bA zj Q)=
 (bif decide ((↑j:Int)<(↑(List.length l):Int))
 then (ax Tryz.prog (fun _=> .none) (.indexAddr 32 (.tmp 12) (.tmp 13)) [(12,(.vec 2 (l) .none)),(13,(.val (.int .i64 ((↑j:Int)))))] (.elt [(.val (.int .u32 (a))),(.val (.int .i64 (n)))])∧
 (bif !dN a n
 then Q .ret [(.vec 2 (l) .none),(.fn (.func 89) [] [(.ptr 0 0)]),(.val (.int .i64 ((↑j:Int)))),(.val (.int .i64 ((↑(List.length l):Int)))),(.val (.int .i64 ((↑j:Int))))] ⟨[(.cells [(.fn (.func 33) [] [])]),(.cells [(.val (.int .u32 (a))),(.val (.int .i64 (n)))])], []⟩ [] 19
 else Q .normal [(.vec 2 (l) .none),(.fn (.func 89) [] [(.ptr 0 0)]),(.val (.int .i64 0)),(.val (.int .i64 ((↑(List.length l):Int)))),(.val (.int .i64 (IntKind.wrap IntKind.i64 ((↑j:Int)+(1:Int)))))] ⟨[(.cells [(.fn (.func 33) [] [])]),(.cells [(.val (.int .u32 (a))),(.val (.int .i64 (n)))])], []⟩ [] 19))
 else Q (.exit 0) [(.vec 2 (l) .none),(.fn (.func 89) [] [(.ptr 0 0)]),(.val (.int .i64 0)),(.val (.int .i64 ((↑(List.length l):Int)))),(.val (.int .i64 ((↑j:Int))))] ⟨[(.cells [(.fn (.func 33) [] [])])], []⟩ [] 19):=by kernel_rfl
theorem KC (l:Bs) (Q:TV→VT→Prop):aq Tryz.prog ae (aw [(lO,Fv)]) aY 300 aD 0 xh [.vec 2 l .none, .fn (.func 89) [] [.ptr 0 0]] oR Q=
 ((((@Eq (Bool) true true)∧
 (@Eq (Option VO) (.some (.cells [(.fn (.func 33) [] [])])) (.some (.cells [(.fn (.func 33) [] [])]))))∧
 Be (l))∧
 (bif jq l
 then (∀z:Nat,Q (.val (.bool true)) ⟨[(.cells [(.fn (.func 33) [] [])])], []⟩)
 else Q (.val (.bool false)) ⟨[(.cells [(.fn (.func 33) [] [])])], []⟩)):=by kernel_rfl
theorem KD (a b:Bs) (tok tok1 tok2:Tok) (Q:TV→VT→Prop):aq Tryz.prog ae (aw [(oN,Bg),(xh,Bf)]) aY 300 aD 0 xi [qV, .vec 1 [[.vec 2 a tok1], [.vec 2 b tok2]] tok] ⟨[], []⟩ Q=
 ((oP (a)∧
 oP (b))∧
 ((((@Eq (Bool) true true)∧
 (@Eq (Option VO) (.some (.cells [(.fn (.func 33) [] [])])) (.some (.cells [(.fn (.func 33) [] [])]))))∧
 Be (a++b))∧
 Q (.val (.bool (!jq (a++b)))) ⟨[(.cells [(.fn (.func 33) [] [])])], []⟩)):=by kernel_rfl
theorem Nj (w p n:Bs) (o h m:Int) (hm ok ok2:Bool) (Q:TV→VT→Prop):aq Tryz.prog ae (aw [(xi,Bh),(sx,uT ok),(oL,zi ok2)]) (aA [(999998, .dead,none)]) 300 aD 0 NY [.agg [.vec 2 w .none, .val (.int .i64 o), .vec 1 p .none, .val (.int .u32 h), .val (.int .i64 m), .val (.bool hm), .vec 2 n .none]] ⟨[], []⟩ Q=
 ((oP (w)∧
 oP (n))∧
 (bif !!jq (w++n)
 then Q (.val (.bool false)) ⟨[(.cells [(.vec 2 (w) .none),(.val (.int .i64 (o))),(.vec 1 (p) .none),(.val (.int .u32 (h))),(.val (.int .i64 (m))),(.val (.bool (hm))),(.vec 2 (n) .none)])], []⟩
 else (bif decide ((↑(List.length n):Int)>(0:Int))
 then (tN [(.val (.int .i64 (o))),(.vec 1 (p) .none),(.val (.int .u32 (h))),(.val (.int .i64 (m))),(.val (.bool (hm)))] (ok)∧
 Q (.val (.bool (ok))) ⟨[(.cells [(.vec 2 (w) .none),(.val (.int .i64 (o))),(.vec 1 (p) .none),(.val (.int .u32 (h))),(.val (.int .i64 (m))),(.val (.bool (hm))),(.vec 2 (n) .none)])], []⟩)
 else (xk [(.val (.int .i64 (o))),(.vec 1 (p) .none),(.val (.int .u32 (h))),(.val (.int .i64 (m))),(.val (.bool (hm)))] [(.val (.int .i64 0)),(.val (.slice .none 0 0)),(.val (.int .u32 0)),(.val (.int .i64 0)),(.val (.bool false))] (ok2)∧
 Q (.val (.bool (ok2))) ⟨[(.cells [(.vec 2 (w) .none),(.val (.int .i64 (o))),(.vec 1 (p) .none),(.val (.int .u32 (h))),(.val (.int .i64 (m))),(.val (.bool (hm))),(.vec 2 (n) .none)])], []⟩)))):=by kernel_rfl
theorem Nk (b:Bs) (v:Bs) (e:Nat) (Q:TV→VT→Prop):aq Tryz.prog ae (aw [(kw,xn .i64 2)]) (aA [(7, .vec 1 v (.tail 0 e),some fun T=>{T with tails:= [(e,1,false)]})]) 300 aD 0 xj [.vec 1 b .none] ⟨[], []⟩ Q=
 ((@Eq (IntKind) .i64 .i64)∧
 (eY ((↑(List.length b):Int)) 2∧
 (aB Tryz.prog (fun _=> .none) 0 ⟨[], [(0,(1,false))]⟩ (.call ⟨(.builtin .append), #[(.tmp 5),(.tmp 6)], #[94,94]⟩) [(5,(.vec 1 (bh (2:Int) (↑(List.length b):Int)) (.tail 0 0))),(6,(.vec 1 (b) .none))] (.vec 1 (v) (.tail 0 (e))) ⟨[], [((e),(1,false))]⟩∧
 Q (.vec 1 (v) (.tail 0 (e))) ⟨[], [((e),(1,false))]⟩))):=by kernel_rfl
theorem KE (v:Bs) (e:Nat) (Q:TV→VT→Prop):aq Tryz.prog ae (aw [(kw,xn .i64 2)]) (aA [(7, .vec 1 v (.tail 0 e),some fun T=>{T with tails:= [(e,1,false)]})]) 300 aD 0 xj [.val (.slice none 0 0)] ⟨[], []⟩ Q=
 ((@Eq (IntKind) .i64 .i64)∧
 (eY 0 2∧
 (aB Tryz.prog (fun _=> .none) 0 ⟨[], [(0,(1,false))]⟩ (.call ⟨(.builtin .append), #[(.tmp 5),(.tmp 6)], #[94,94]⟩) [(5,(.vec 1 (bh (2:Int) (↑(0:Nat):Int)) (.tail 0 0))),(6,(.val (.slice .none 0 0)))] (.vec 1 (v) (.tail 0 (e))) ⟨[], [((e),(1,false))]⟩∧
 Q (.vec 1 (v) (.tail 0 (e))) ⟨[], [((e),(1,false))]⟩))):=by kernel_rfl
theorem Nl (w p n v:Bs) (o h m:Int) (hm:Bool) (Q:TV→VT→Prop):aq Tryz.prog ae (aw [(C7,Gp v),(kx,Gq),(xj,Gs),(zf,Bi)]) (aA [(999998, .dead,none)]) 300 aD 0 NZ [.agg [.vec 2 w .none, .val (.int .i64 o), .vec 1 p .none, .val (.int .u32 h), .val (.int .i64 m), .val (.bool hm), .vec 2 n .none]] ⟨[], []⟩ Q=
 (bif decide ((↑(List.length n):Int)>(0:Int))
 then (Kx [(.val (.int .i64 (o))),(.vec 1 (p) .none),(.val (.int .u32 (h))),(.val (.int .i64 (m))),(.val (.bool (hm)))] (v)∧
 (xl (w)∧
 (((@Eq (Option TV) (.some (.vec 2 (n) .none)) (.some (.vec 2 (n) .none)))∧
 ((@Eq (Option TV) (.some (.vec 2 (w) .none)) (.some (.vec 2 (w) .none)))∧
 True))∧
 (tP (gS w)∧
 (((@Eq (Option TV) (.some (.vec 2 (n) .none)) (.some (.vec 2 (n) .none)))∧
 ((@Eq (Option TV) (.some (.vec 2 (w) .none)) (.some (.vec 2 (w) .none)))∧
 True))∧
 (tP (v)∧
 (((@Eq (Option TV) (.some (.vec 2 (n) .none)) (.some (.vec 2 (n) .none)))∧
 ((@Eq (Option TV) (.some (.vec 2 (w) .none)) (.some (.vec 2 (w) .none)))∧
 True))∧
 (xl (n)∧
 (xm (bh (2:Int) (↑(List.length (gS w)):Int)++gS w) (bh (2:Int) (↑(List.length v):Int)++v) (gS n)∧
 Q (.vec 1 (bh (2:Int) (↑(List.length (gS w)):Int)++gS w++(bh (2:Int) (↑(List.length v):Int)++v++gS n)) .none) ⟨[(.cells [(.vec 2 (w) .none),(.val (.int .i64 (o))),(.vec 1 (p) .none),(.val (.int .u32 (h))),(.val (.int .i64 (m))),(.val (.bool (hm))),(.vec 2 (n) .none)])], []⟩)))))))))
 else (xl (w)∧
 (((@Eq (Option TV) (.some (.vec 2 (n) .none)) (.some (.vec 2 (n) .none)))∧
 ((@Eq (Option TV) (.some (.vec 2 (w) .none)) (.some (.vec 2 (w) .none)))∧
 True))∧
 (tP (gS w)∧
 (((@Eq (Option TV) (.some (.vec 2 (n) .none)) (.some (.vec 2 (n) .none)))∧
 ((@Eq (Option TV) (.some (.vec 2 (w) .none)) (.some (.vec 2 (w) .none)))∧
 True))∧
 (((@Eq (Option TV) (.some (.vec 2 (n) .none)) (.some (.vec 2 (n) .none)))∧
 ((@Eq (Option TV) (.some (.vec 2 (w) .none)) (.some (.vec 2 (w) .none)))∧
 True))∧
 (xl (n)∧
 (xm (bh (2:Int) (↑(List.length (gS w)):Int)++gS w) (bh (2:Int) (0:Int)) (gS n)∧
 Q (.vec 1 (bh (2:Int) (↑(List.length (gS w)):Int)++gS w++(bh (2:Int) (0:Int)++gS n)) .none) ⟨[(.cells [(.vec 2 (w) .none),(.val (.int .i64 (o))),(.vec 1 (p) .none),(.val (.int .u32 (h))),(.val (.int .i64 (m))),(.val (.bool (hm))),(.vec 2 (n) .none)])], []⟩)))))))):=by kernel_rfl
theorem Nm (q r s:List TV) (a b c:Bs) (k k2:Nat) (tok tok1 tok2 tok3:Tok) (y3:TV) (T0 T1 T2 T3:VT) (Q:TV→VT→Prop):aq Tryz.prog ae (aw [(xe,Di (.row 1 0 0 0) T0)]) (Gn (.row 1 1 0 k) (.row 1 2 0 k2) y3 T1 T2 T3) 300 aD 0 zf [.vec 1 [[.vec 1 (q::a) tok1], [.vec 1 (r::b) tok2], [.vec 1 (s::c) tok3]] tok] ⟨[], []⟩ Q=
 (bif decide (IntKind.wrap IntKind.i64 ((0:Int)+(↑(List.length (q::a)):Int))<(0:Int))
 then False
 else (bif decide (IntKind.wrap IntKind.i64 (IntKind.wrap IntKind.i64 ((0:Int)+(↑(List.length (q::a)):Int))+(↑(List.length (r::b)):Int))<(0:Int))
 then False
 else (bif decide (IntKind.wrap IntKind.i64 (IntKind.wrap IntKind.i64 (IntKind.wrap IntKind.i64 ((0:Int)+(↑(List.length (q::a)):Int))+(↑(List.length (r::b)):Int))+(↑(List.length (s::c)):Int))<(0:Int))
 then False
 else (xf (IntKind.wrap IntKind.i64 (IntKind.wrap IntKind.i64 (IntKind.wrap IntKind.i64 ((0:Int)+(↑(List.length (q::a)):Int))+(↑(List.length (r::b)):Int))+(↑(List.length (s::c)):Int))) (.row 1 0 0 0) (T0) 0 ⟨[], []⟩∧
 (aB Tryz.prog (fun _=> .none) 0 (T0) (.call ⟨(.builtin .append), #[(.tmp 31),(.tmp 32)], #[94,94]⟩) [(31,(.row 1 0 0 0)),(32,(.vec 1 ([(q)]++a) (tok1)))] (.row 1 1 0 (k)) (T1)∧
 (aB Tryz.prog (fun _=> .none) 0 (T1) (.call ⟨(.builtin .append), #[(.tmp 31),(.tmp 32)], #[94,94]⟩) [(31,(.row 1 1 0 (k))),(32,(.vec 1 ([(r)]++b) (tok2)))] (.row 1 2 0 (k2)) (T2)∧
 (aB Tryz.prog (fun _=> .none) 0 (T2) (.call ⟨(.builtin .append), #[(.tmp 31),(.tmp 32)], #[94,94]⟩) [(31,(.row 1 2 0 (k2))),(32,(.vec 1 ([(s)]++c) (tok3)))] (y3) (T3)∧
 Q (y3) (T3)))))))):=by kernel_rfl
theorem KF (q r:List TV) (a b:Bs) (k k2:Nat) (tok tok1 tok2 tok3:Tok) (y3:TV) (T0 T1 T2 T3:VT) (Q:TV→VT→Prop):aq Tryz.prog ae (aw [(xe,Di (.row 1 0 0 0) T0)]) (Gn (.row 1 1 0 k) (.row 1 2 0 k2) y3 T1 T2 T3) 300 aD 0 zf [.vec 1 [[.vec 1 (q::a) tok1], [.vec 1 (r::b) tok2], [.vec 1 [] tok3]] tok] ⟨[], []⟩ Q=
 (bif decide (IntKind.wrap IntKind.i64 ((0:Int)+(↑(List.length (q::a)):Int))<(0:Int))
 then False
 else (bif decide (IntKind.wrap IntKind.i64 (IntKind.wrap IntKind.i64 ((0:Int)+(↑(List.length (q::a)):Int))+(↑(List.length (r::b)):Int))<(0:Int))
 then False
 else (bif decide (IntKind.wrap IntKind.i64 (IntKind.wrap IntKind.i64 (IntKind.wrap IntKind.i64 ((0:Int)+(↑(List.length (q::a)):Int))+(↑(List.length (r::b)):Int))+(↑(0:Nat):Int))<(0:Int))
 then False
 else (xf (IntKind.wrap IntKind.i64 (IntKind.wrap IntKind.i64 (IntKind.wrap IntKind.i64 ((0:Int)+(↑(List.length (q::a)):Int))+(↑(List.length (r::b)):Int))+(↑(0:Nat):Int))) (.row 1 0 0 0) (T0) 0 ⟨[], []⟩∧
 (aB Tryz.prog (fun _=> .none) 0 (T0) (.call ⟨(.builtin .append), #[(.tmp 31),(.tmp 32)], #[94,94]⟩) [(31,(.row 1 0 0 0)),(32,(.vec 1 ([(q)]++a) (tok1)))] (.row 1 1 0 (k)) (T1)∧
 (aB Tryz.prog (fun _=> .none) 0 (T1) (.call ⟨(.builtin .append), #[(.tmp 31),(.tmp 32)], #[94,94]⟩) [(31,(.row 1 1 0 (k))),(32,(.vec 1 ([(r)]++b) (tok2)))] (.row 1 2 0 (k2)) (T2)∧
 Q (.row 1 2 0 (k2)) (T2))))))):=by kernel_rfl
end
--MbI
section
open Go.RowKit

theorem Fx {b:Bs} (hb:IsB b) (hne:b≠ []) (tok:Tok) {n k:Nat} (hk:k≤8):VCx Tryz.prog ae 0 eG [.vec 1 b tok, .val (.int .u64 n), .val (.int .i64 k)] ⟨[], []⟩ fun x T' =>x= .vec 1 (b++qd k n) (.tail 0 0)∧T' =⟨[], [(0,1,false)]⟩:=by
  obtain ⟨⟨l,rfl,hl⟩,hlen⟩:=hb
  have hne2:l≠ []:=fun h=>hne (by rw [h];rfl)
  have hll:(bV l).length=l.length:=by simp [bV]
  rw [hll] at hlen
  have hvs:(eR l++gH (dy n k)).length=l.length+k:=by simp [eR,gH,dy]
  have h:=VCx.ofOwnT (P:=Tryz.prog) (G:=ae) (f:=eG) (xs:= [.vec 1 (bV l) tok, .val (.int .u64 n), .val (.int .i64 k)]) (ty:=5) (vs:=eR l++gH (dy n k)) (fun v hv=> ?_) (by rw [hvs];unfold maxLen;omega) (fun g w us hx=> ?_)
  · refine h.mono ?_
    rintro x T' ⟨rfl,rfl⟩
    refine ⟨?_,rfl⟩
    rw [List.map_append,←iH,su,←iH];rfl
  · rcases List.mem_append.1 hv with hv | hv
    · obtain ⟨z,_,rfl⟩:=List.mem_map.1 hv;rfl
    · obtain ⟨z,_,rfl⟩:=List.mem_map.1 hv;rfl
  · match us,hx.1 with
    | [v,u1,u2],_=>
      have hv:=hx.2 0 _ v rfl rfl
      obtain rfl:=(hx.2 1 _ u1 rfl rfl).val_inv
      obtain rfl:=(hx.2 2 _ u2 rfl rfl).val_inv
      have:=A7 v l.length (eR l) (fun u hu=>by obtain ⟨z,_,rfl⟩:=List.mem_map.1 hu;rfl) n k hk (by omega) w (CS hv hne2)
      rw [hvs];exact this
theorem Dm {n k:Nat} (hk:k≤8):VCx Tryz.prog ae 0 eG [.val (.slice none 0 0), .val (.int .u64 n), .val (.int .i64 k)] ⟨[], []⟩ fun x T' =>x= .vec 1 (qd k n) (.tail 0 0)∧T' =⟨[], [(0,1,false)]⟩:=by
 have hvs:(gH (dy n k)).length=k:=by simp [gH,dy]
 have h:=VCx.ofOwnT (P:=Tryz.prog) (G:=ae) (f:=eG) (xs:= [.val (.slice none 0 0), .val (.int .u64 n), .val (.int .i64 k)]) (ty:=5) (vs:=gH (dy n k)) (fun v hv=>by obtain ⟨z,_,rfl⟩:=List.mem_map.1 hv;rfl) (by rw [hvs];unfold maxLen;omega) (fun g w us hx=> ?_)
 ·refine h.mono ?_
  rintro x T' ⟨rfl,rfl⟩
  refine ⟨?_,rfl⟩
  rw [su,←iH];rfl
 ·match us,hx.1 with
  | [v,u1,u2],_=>
   obtain rfl:=(hx.2 0 _ v rfl rfl).val_inv
   obtain rfl:=(hx.2 1 _ u1 rfl rfl).val_inv
   obtain rfl:=(hx.2 2 _ u2 rfl rfl).val_inv
   have:=A7 (.slice none 0 0) 0 [] (by simp) n k hk (by omega) w (Rd.nil w 1)
   rw [hvs]
   simpa using this
theorem Fy:∀ro ys T K,sB ro ys T K→VCx Tryz.prog ae ro eG ys T K:=by
 intro ro ys T K hw
 unfold sB at hw
 split at hw
 ·rename_i x n k
  split at hw
  ·obtain ⟨⟨⟨h1,h1b⟩,h2,h3⟩,hk⟩:=hw
   obtain ⟨n,rfl⟩:=Int.eq_ofNat_of_zero_le h1
   obtain ⟨k,rfl⟩:=Int.eq_ofNat_of_zero_le h2
   have hb:IsB (qd k n):=wU (by omega)
   exact VCx.liftTail ap (Dm (n:=n) (k:=k) (by omega)) (by simp only [av,TV.ren]) (fun f g=>hb.ren f g) hk
  ·rename_i b tok
   obtain ⟨⟨⟨⟨h1,h1b⟩,h2,h3⟩,hb,hne⟩,hk⟩:=hw
   obtain ⟨n,rfl⟩:=Int.eq_ofNat_of_zero_le h1
   obtain ⟨k,rfl⟩:=Int.eq_ofNat_of_zero_le h2
   exact VCx.liftTail ap (Fx (n:=n) (k:=k) hb hne (tok.ren (bc []) (bc [])) (by omega)) (by simp only [av,TV.ren,hb.ren]) (fun f g=>tL hb (dd (k:=((k:Nat):Int)) ((n:Nat):Int) h3) f g) hk
  ·exact hw.elim
 ·exact hw.elim
theorem Dn:aQ Tryz.prog ae (aw [(eG,sB)]):=aE fun p hp=>by obtain rfl:=List.mem_singleton.1 hp;exact Fy
theorem Fz {f:FuncId} {k:Int} (h0:∀{n:Int},0≤n→n≤1000000000000000→VCx Tryz.prog ae 0 f [.val (.slice none 0 0), .val (.int .i64 n)] ⟨[], []⟩ fun x T' =>x= .vec 1 (bh k n) (.tail 0 0)∧T' =⟨[], [(0,1,false)]⟩)
  (h1:∀{n:Int} {b:Bs} (tok:Tok),0≤n→n≤1000000000000000→IsB b→b≠ []→VCx Tryz.prog ae 0 f [.vec 1 b tok, .val (.int .i64 n)] ⟨[], []⟩ fun x T' =>x= .vec 1 (b++bh k n) (.tail 0 0)∧T' =⟨[], [(0,1,false)]⟩):
  ∀ro ys T K,xn .i64 k ro ys T K→VCx Tryz.prog ae ro f ys T K:=by
 intro ro ys T K hw
 unfold xn at hw
 split at hw
 ·rename_i x q n
  obtain ⟨rfl,hw⟩:=hw
  split at hw
  ·obtain ⟨⟨⟨g1,hn⟩,g2,g3⟩,hk⟩:=hw
   exact VCx.liftTail ap (h0 g1 hn) (by simp only [av,TV.ren]) (fun f g=>(dd n g3).ren f g) hk
  ·rename_i b tok
   obtain ⟨⟨⟨⟨g1,hn⟩,g2,g3⟩,hb,hne⟩,hk⟩:=hw
   exact VCx.liftTail ap (h1 (tok.ren (bc []) (bc [])) g1 hn hb hne) (by simp only [av,TV.ren,hb.ren]) (fun f g=>tL hb (dd n g3) f g) hk
  ·exact hw.elim
 ·exact hw.elim
theorem zk:∀ro ys T K,xn .i64 2 ro ys T K→VCx Tryz.prog ae ro kw ys T K:=Fz
 (fun g hn=>ak ac aa Dn ah (Fw _ _) (by rw [lh g hn];exact ⟨⟨⟨g,hn⟩,by decide,by decide⟩,rfl,rfl⟩))
 (fun tok g hn hb hne=>ak ac aa Dn ah (HP _ tok _ _) (by rw [lh g hn];exact ⟨⟨⟨⟨g,hn⟩,by decide,by decide⟩,hb,hne⟩,rfl,rfl⟩))
theorem KG:∀ro ys T K,Fu ro ys T K→VCx Tryz.prog ae ro qQ ys T K:=by
 intro ro ys T K hw
 unfold Fu at hw
 split at hw
 ·rename_i a n
  have hm:qe (oO n):=by unfold oO qe;split<;>split<;>omega
  exact VCx.liftPure ap (VCx.keepQ 0 0 (Nat.le_refl _) (Nat.le_refl _) (ak ac aa (aE fun p hp=>by obtain rfl:=List.mem_singleton.1 hp;exact yX) ah (CZ a n _) ⟨hm,rfl,rfl⟩)) rfl (fun _ _=>rfl) hw
 ·exact hw.elim
theorem KH (a n c p:Int):aG BinOp.eql (ar (.agg #[.int .u32 a, .int .i64 n]) (.agg #[.int .u32 c, .int .i64 p]))=(decide (a=c)&&decide (n=p)):=by
 simp [aG,ar,dh,ct,Bool.beq_eq_decide_eq]
theorem KI (a n:Int):VCx Tryz.prog ae 0 xg [.agg [.val (.int .u32 a), .val (.int .i64 n)]] ⟨[], []⟩ fun x T' =>x= .val (.bool (dN a n))∧T' =⟨[], []⟩:=
 VCx.keepQ 0 0 (Nat.le_refl _) (Nat.le_refl _) (ak ac aa (aE fun p hp=>by obtain rfl:=List.mem_singleton.1 hp;exact KG) ah (Nh a n _) ⟨⟨rfl,rfl,trivial⟩,by
  refine ⟨?_,by simp [VT.keep]⟩
  show TV.val (.bool _)=_
  rw [show aG BinOp.eql (ar ((fun vs=>Value.agg (List.toArray vs)) ((fun x=>Value.int IntKind.u32 a::x) ((fun x=>Value.int IntKind.i64 n::x) []))) ((fun vs=>Value.agg (List.toArray vs)) ((fun x=>Value.int IntKind.u32 (sA a n)::x) ((fun x=>Value.int IntKind.i64 (oO n)::x) []))))=_ from KH a n (sA a n) (oO n)]
  rfl⟩)
theorem Do:∀ro ys T K,zh ro ys T K→VCx Tryz.prog ae ro xg ys T K:=by
 intro ro ys T K hw
 unfold zh at hw
 split at hw
 ·exact VCx.liftPure ap (KI _ _) rfl (fun _ _=>rfl) hw
 ·exact hw.elim
theorem xp {a n:Int} (h:dN a n=true):wZ a n:=by
 unfold dN at h
 simp only [Bool.and_eq_true,decide_eq_true_eq] at h
 obtain ⟨h1,h2⟩:=h
 have hm:qe n:=by unfold oO at h2;unfold qe;split at h2<;>split at h2<;>omega
 refine ⟨?_,hm, ?_⟩
 ·rw [h1]
  unfold sA CY
  simp only [IntKind.wrap,IntKind.bits,IntKind.signed]
  simp
  omega
 ·unfold sA at h1
  rw [←h2] at h1
  exact h1.symm
theorem pH (l:List (Int × Int)):Gm (an l)=l:=by
 unfold Gm an
 rw [List.map_map]
 exact (List.map_congr_left fun p _=>rfl).trans (List.map_id l)
theorem bw (l:List (Int × Int)):(an l).length=l.length:=List.length_map _
theorem zl (l:List (Int × Int)):jq (an l)= !l.all fun p=>dN p.1 p.2:=by unfold jq;rw [pH]
theorem HR {l:List (Int × Int)} (hn:l.length≤2000000):eP Tryz.prog ae (N0 (an l) (!jq (an l)) (am Tryz.prog lO 0)):=aL fun p hp=>by
  obtain rfl:=List.mem_singleton.1 hp
  have hS:aQ Tryz.prog ae (aw [(xg,zh)]):=aE fun p hp=>by obtain rfl:=List.mem_singleton.1 hp;exact Do
  rw [zl,Bool.not_not]
  refine aS fun K hK=> ?_
  refine bK (f:=lO) (id:=0) (by kernel_rfl) 19 zj (fun j:Nat=>l.length-j) (fun j:Nat=>uW (an l) 0 j) (fun _=>oR) (fun j=>j≤l.length∧((l.take j).all fun p=>dN p.1 p.2)=true) 1 0 (fun _ _=>⟨Nat.le_refl _,Nat.le_refl _⟩)
    (fun e vs T=>(e= .normal∧(l.all fun p=>dN p.1 p.2)=true∧vs=uW (an l) 0 (an l).length∧T=oR)∨(e= .ret∧(l.all fun p=>dN p.1 p.2)=false∧∃(z:Nat) (a n:Int),vs=uW (an l) z z∧T=⟨[.cells [qV], .cells [.val (.int .u32 a), .val (.int .i64 n)]], []⟩)) (fun j hj=> ?_) 0 ⟨Nat.zero_le _,rfl⟩ K ?_
  · obtain ⟨hj,hall⟩:=hj
    by_cases hlt:j<l.length
    · have hat:(an l)[((j:Nat):Int).toNat]?=some (cj l[j]):=by rw [Int.toNat_natCast];show (l.map _)[j]?=_;rw [List.getElem?_map,List.getElem?_eq_getElem hlt];rfl
      refine aI ac aa hS ah (Dl (an l) l[j].1 l[j].2 j _) ?_
      refine aN (decide_eq_true (by rw [bw];omega)) ⟨w6 rfl rfl (by omega) hat, ?_⟩
      cases hg:dN l[j].1 l[j].2
      · refine aN rfl ⟨rfl,rfl, .inr ⟨rfl, ?_,j,l[j].1,l[j].2,rfl,rfl⟩⟩
        cases hc:l.all fun p=>dN p.1 p.2
        · rfl
        · have:=List.all_eq_true.1 hc _ (List.getElem_mem hlt);rw [hg] at this;cases this
      · refine aH rfl ⟨rfl,rfl,j+1,⟨hlt, ?_⟩,by show l.length-(j+1)<l.length-j;omega, .inr ⟨rfl, ?_⟩⟩
        · rw [List.take_add_one,List.getElem?_eq_getElem hlt,List.all_append,hall]
          simp only [Option.toList_some,List.all_cons,List.all_nil,Bool.and_true,Bool.true_and]
          exact hg
        · show av _ _ _=_
          rw [vB hlt hn]
          simp only [av,TV.ren,Tok.ren,show bG (au 1) (au 0) (an l)=an l from kr _ _ l]
          rfl
    · have hj2:j=l.length:=by omega
      subst hj2
      rw [List.take_length] at hall
      refine aI ac aa hS ah (Dl (an l) 0 0 l.length _) ?_
      exact aH (decide_eq_false (by rw [bw];omega)) ⟨rfl,rfl, .inl ⟨rfl,hall,by simp only [uW,bw],rfl⟩⟩
  · rintro e vs T (⟨rfl,h1,rfl,rfl⟩ | ⟨rfl,h1,z,a,n,rfl,rfl⟩)
    · have:=hK 0 0 0;rw [h1] at this;exact this
    · have:=hK z a n;rw [h1] at this;exact this
theorem KJ {l:List (Int × Int)} (hn:l.length≤2000000):VCx Tryz.prog ae 0 lO [.vec 2 (an l) .none, .fn (.func Kw) [] [.ptr 0 0]] oR fun x T' =>(bif jq (an l) then ∃z:Nat,x= .val (.int .i64 (Int.ofNat z)) else x= .val (.int .i64 (-1)))∧T' =oR:=by
 refine VCx.keepQ 1 0 (Nat.le_refl _) (Nat.le_refl _) (ak ac aa ai (HR hn) (Ni (an l) (!jq (an l)) _) ⟨rfl,⟨rfl,rfl,rfl,trivial,rfl,rfl,rfl⟩,fun z a n=> ?_⟩)
 cases h:jq (an l)
 ·exact ⟨rfl,rfl⟩
 ·exact ⟨⟨z,rfl⟩,rfl⟩
theorem cd (f g:Nat→Option Nat) (l:List (Int × Int)):bG f g (an l)=an l:=kr f g l
theorem HT:∀ro ys T K,Fv ro ys T K→VCx Tryz.prog ae ro lO ys T K:=by
 intro ro ys T K hw
 unfold Fv at hw
 split at hw
 ·rename_i l tok i
  obtain ⟨⟨⟨hro,ho⟩,p,rfl,hp⟩,hk⟩:=hw
  refine VCx.atKeep ap (Nat.le_of_ble_eq_true hro) ho rfl (fun _ _=>rfl) ?_ (KJ hp) fun x hx=> ?_
  ·simp only [av,TV.ren,cd]
   exact ⟨.vec _ _ _,by simp [bc];exact .refl _,trivial⟩
  ·cases hb:jq (an p)<;>rw [hb] at hx hk
   ·subst hx;exact ⟨fun _ _=>rfl,hk⟩
   ·obtain ⟨z,rfl⟩:=hx;exact ⟨fun _ _=>rfl,hk z⟩
 ·exact hw.elim
theorem HU {l:List (Int × Int)} (hn:l.length≤2000000):VCx Tryz.prog ae 0 xh [.vec 2 (an l) .none, .fn (.func Kw) [] [.ptr 0 0]] oR fun x T' =>x= .val (.bool (jq (an l)))∧T' =oR:=by
 refine VCx.keepQ 1 0 (Nat.le_refl _) (Nat.le_refl _) (ak ac aa (aE fun p hp=>by obtain rfl:=List.mem_singleton.1 hp;exact HT) ah (KC (an l) _) ⟨⟨⟨rfl,rfl⟩,l,rfl,hn⟩, ?_⟩)
 cases h:jq (an l)
 ·exact ⟨rfl,rfl⟩
 ·exact fun z=>⟨rfl,rfl⟩
theorem HV:∀ro ys T K,Bf ro ys T K→VCx Tryz.prog ae ro xh ys T K:=by
 intro ro ys T K hw
 unfold Bf at hw
 split at hw
 ·rename_i l tok i
  obtain ⟨⟨⟨hro,ho⟩,p,rfl,hp⟩,hk⟩:=hw
  refine VCx.atKeep ap (Nat.le_of_ble_eq_true hro) ho rfl (fun _ _=>rfl) ?_ (HU hp) fun x hx=> ?_
  ·simp only [av,TV.ren,cd]
   exact ⟨.vec _ _ _,by simp [bc];exact .refl _,trivial⟩
  ·subst hx;exact ⟨fun _ _=>rfl,hk⟩
 ·exact hw.elim
def zP (n:Nat):List TV:=(Builtin.zeroCells (Value.agg #[.int .u32 0, .int .i64 0]).cells n).toList.map .val
theorem KK (f g:Nat→Option Nat) (n:Nat):av f g (zP n)=zP n:=nW _ _ _
theorem HW {n:Int} (h0:0<n) (h1:n≤2000000):VCx Tryz.prog ae 0 oM [.val (.slice none 0 0), .val (.int .i64 n)] ⟨[], []⟩ fun x T1=>x= .row 2 0 0 0∧T1=⟨[.row (zP n.toNat)], []⟩:=by
 obtain ⟨inf,i1,i2,i3,i4⟩:=qR
 refine ak ac aa ai ah (Dk n n.toNat (zP n.toNat) ⟨[], []⟩ _) ?_
 have e:IntKind.wrap IntKind.i64 (n-IntKind.wrap IntKind.i64 (((0:Nat):Int)-((0:Nat):Int)))=n:=by
  rw [show IntKind.wrap IntKind.i64 (((0:Nat):Int)-((0:Nat):Int))=0 from rfl,Int.sub_zero,fj (by omega) (by omega)]
 refine aH (decide_eq_false (by omega)) (aN (decide_eq_true (by rw [e];exact h0)) ⟨?_,rfl,rfl⟩)
 rw [e]
 have hb:n.toNat*(inf.bytes+1)≤140737488355328:=by
  have:=Nat.mul_le_mul (show n.toNat≤2000000 by omega) i3
  omega
 have h:=sg (P:=Tryz.prog) (G:=ae) (ro:=0) (T:=⟨[], []⟩) (t:=32) (tn:=3) (s:= .tmp 20) (x:= .tmp 21) (l:= [(20, .val (.slice none 0 0)),(21, .val (.int .i64 n))]) (inf:=inf) (m:=n) Tryz.underlying32 Tryz.underlying3 i1 i4 (by rw [i2];rfl) (by rw [i2];decide) rfl rfl rfl h0 hb
 rw [i2] at h
 exact h
theorem xq {n:Int} (h0:0<n) (h1:n≤2000000) (ro:Nat) (T:VT):jz n (.row 2 T.objs.length 0 0) {T with objs:=T.objs++ [.row (zP n.toNat)]} ro T:=by
 unfold jz
 refine (VCx.lift (T:=T) [] [] ap List.nodup_nil List.nodup_nil (by simp) (by simp) (by simp) rfl (by rw [VT.give_nil];exact HW h0 h1) (fun _ _ _=>⟨Nat.zero_le _,Nat.zero_le _⟩)).mono ?_
 rintro z T' ⟨x,T'',⟨rfl,rfl⟩,rfl,rfl⟩
 refine ⟨by simp [TV.ren,ba], ?_⟩
 rw [VT.back_nil]
 simp [VO.ren,KK]
theorem HY (ro:Nat) (T:VT):jz 0 (.val (.slice none 0 0)) T ro T:=by
 unfold jz
 exact VCx.liftPure (y:= .val (.slice none 0 0)) ap (ak ac aa ai ah (Dk 0 0 [] ⟨[], []⟩ _) ⟨rfl,rfl⟩) rfl (fun _ _=>rfl) ⟨rfl,rfl⟩
theorem vC {gy:TV} {gT:VT}:aQ Tryz.prog ae (aw [(oM,qU gy gT)]):=aE fun p hp=>by
 obtain rfl:=List.mem_singleton.1 hp
 intro ro ys T K hw
 replace hw:qU gy gT ro ys T K:=hw
 unfold qU at hw
 split at hw
 ·obtain ⟨h,hk⟩:=hw
  exact VCx.mono h fun x T1 ⟨h1,h2⟩=>by subst h1 h2;exact hk
 ·exact hw.elim
theorem N1 {e:TypeId} {t:TypeId} {inf:TypeInfo} {z:Value} {sz:Nat} (ht:Tryz.prog.underlying t=some (.slice e)) (hi:Tryz.prog.info? e=some inf) (hs:inf.size=sz) (hz:inf.zero=some z) (hzs:z.cells.size=sz) (hz1:z.cells.toList.all Value.oneCell' =true) (hbd:inf.bytes+1≤1000)
    {T:VT} {id n m:Nat} {cs cs' :List TV} {q:List TV} {a:Bs} {tok:Tok} (ho:T.objs[id]?=some (.row cs)) (hn:n*sz≤cs.length) (hb:n+a.length+1≤3000000) (hm:m=n+(a.length+1)) (hcs:cs' =cs.take (n*sz)++(q::a).flatten):
    aB Tryz.prog ae 0 T (.call ⟨.builtin .append, #[.tmp 31, .tmp 32], #[t,t]⟩) [(31, .row sz id 0 n),(32, .vec sz (q::a) tok)] (.row sz T.objs.length 0 m) ((T.kill id).newRow cs'):=by
  subst hm hcs hs
  refine A4 (P:=Tryz.prog) (G:=ae) (ro:=0) (T:=T) (t:=t) (tx:=t) (s:= .tmp 31) (x:= .tmp 32) (l:= [(31, .row inf.size id 0 n),(32, .vec inf.size (q::a) tok)]) (inf:=inf) (id:=id) (n:=n) (cs:=cs) (q0:=q) (qs:=a) ht hi hz hzs hz1 (by rw [ht];rfl) rfl ho (Nat.zero_le _) hn ?_ ?_
  · show cn T inf.size (.vec inf.size (q::a) tok)=_
    simp [cn]
  · have:=Nat.mul_le_mul (show n+(q::a).length≤3000000 by simp only [List.length_cons];omega) hbd
    omega
theorem Gt {T:VT} {id n m:Nat} {cs cs' :List TV} {q:List TV} {a:Bs} {tok:Tok} (ho:T.objs[id]?=some (.row cs)) (hn:n*2≤cs.length) (hb:n+a.length+1≤3000000) (hm:m=n+(a.length+1)) (hcs:cs' =cs.take (n*2)++(q::a).flatten):
  aB Tryz.prog ae 0 T (.call ⟨.builtin .append, #[.tmp 31, .tmp 32], #[32,32]⟩) [(31, .row 2 id 0 n),(32, .vec 2 (q::a) tok)] (.row 2 T.objs.length 0 m) ((T.kill id).newRow cs'):=by
 obtain ⟨inf,i1,i2,i3,i4⟩:=qR
 exact N1 Tryz.underlying32 i1 i2 i4 rfl (by decide) i3 ho hn hb hm hcs
theorem Dp {T:VT} {id n m:Nat} {cs cs' :List TV} {q:List TV} {a:Bs} {tok:Tok} (ho:T.objs[id]?=some (.row cs)) (hn:n*1≤cs.length) (hb:n+a.length+1≤3000000) (hm:m=n+(a.length+1)) (hcs:cs' =cs.take (n*1)++(q::a).flatten):
  aB Tryz.prog ae 0 T (.call ⟨.builtin .append, #[.tmp 31, .tmp 32], #[94,94]⟩) [(31, .row 1 id 0 n),(32, .vec 1 (q::a) tok)] (.row 1 T.objs.length 0 m) ((T.kill id).newRow cs'):=by
 obtain ⟨inf,i1,i2,i3,i4⟩:=ko
 exact N1 Tryz.underlying94 i1 i2 i4 rfl (by decide) (by omega) ho hn hb hm hcs
theorem wz {m:Nat} (hm:m≤3000000):IntKind.wrap IntKind.i64 ((0:Int)+(m:Int))=(m:Int):=by rw [Int.zero_add,fj (by omega) (by omega)]
theorem wa {a b:Nat} (h:a+b≤3000000):IntKind.wrap IntKind.i64 ((a:Int)+(b:Int))=((a+b:Nat):Int):=by rw [fj (by omega) (by omega)];omega
theorem oS {b:Nat}:decide (((b:Nat):Int)<0)=false:=decide_eq_false (by omega)
theorem zm:∀l:List (Int × Int),(an l).flatten.length=l.length*2:=fun l=>by
 rw [bD (size:=2) (fun e he=>by obtain ⟨p,_,rfl⟩:=List.mem_map.1 he;rfl),bw]
theorem KL {a b:List (Int × Int)} {tok tok1 tok2:Tok} (ha:a.length≤100000) (hb:b.length≤100000):VCx Tryz.prog ae 0 oN [.vec 1 [[.vec 2 (an a) tok1], [.vec 2 (an b) tok2]] tok] ⟨[], []⟩ fun x T' =>x= .vec 2 (an a++an b) .none∧T' =⟨[], []⟩:=by
 have hz:∀l:List (Int × Int),∀e∈an l,e.length=2:=fun l e he=>by obtain ⟨p,_,rfl⟩:=List.mem_map.1 he;rfl
 have hza:∀e∈an a++an b,e.length=2:=fun e he=>by rcases List.mem_append.1 he with h | h<;>exact hz _ e h
 have hren:∀f g,bG f g (an a++an b)=an a++an b:=fun f g=>by rw [bS,List.map_append,←bS,←bS,cd,cd]
 cases a with
 | nil=>
  cases b with
  | nil=>exact VCx.toLe (Q:=fun T' =>T' =⟨[], []⟩) (ak ac aa vC ah (KB tok tok1 tok2 _) ⟨HY _ _, .nil 2,rfl⟩)
  | cons r b=>
   refine VCx.freezeRow hren (ak ac aa vC ah (KA (cj r) (an b) (b.length+1) (zP (b.length+1)) tok tok1 tok2 ⟨[.gone, .row (an (r::b)).flatten], []⟩ _) ?_)
   have w0:IntKind.wrap IntKind.i64 ((0:Int)+((0:Nat):Int))=((0:Nat):Int):=rfl
   have hlen:(cj r::an b).length=b.length+1:=by rw [List.length_cons,bw]
   rw [w0,hlen,wa (by simp only [List.length_cons] at hb;omega),Nat.zero_add]
   refine aH oS ⟨xq (n:=((b.length+1:Nat):Int)) (by omega) (by simp only [List.length_cons] at hb;omega) 0 ⟨[], []⟩, ?_,ia rfl hza ?_⟩
   ·exact Gt (q:=cj r) (a:=an b) (n:=0) (cs:=zP (b.length+1)) rfl (by omega) (by rw [bw];simp only [List.length_cons] at hb;omega) (by rw [bw,Nat.zero_add]) (by rw [Nat.zero_mul,List.take_zero];rfl)
   ·simp [an]
 | cons q a=>
  have hlen:(cj q::an a).length=a.length+1:=by rw [List.length_cons,bw]
  cases b with
  | nil=>
   refine VCx.freezeRow hren (ak ac aa vC ah (Kz (cj q) (an a) (a.length+1) (zP (a.length+1)) tok tok1 tok2 ⟨[.gone, .row (an (q::a)).flatten], []⟩ _) ?_)
   have hb2:a.length+1≤100000:=by simpa using ha
   rw [hlen,wz (by omega),wa (by omega),Nat.add_zero]
   refine aH oS (aH oS ⟨xq (n:=((a.length+1:Nat):Int)) (by omega) (by omega) 0 ⟨[], []⟩, ?_,ia (by simp [an]) hza ?_⟩)
   ·exact Gt (q:=cj q) (a:=an a) (n:=0) (cs:=zP (a.length+1)) rfl (by omega) (by rw [bw];omega) (by rw [bw,Nat.zero_add]) (by rw [Nat.zero_mul,List.take_zero];rfl)
   ·simp [an]
  | cons r b=>
   have hlen2:(cj r::an b).length=b.length+1:=by rw [List.length_cons,bw]
   have hb2:a.length+1≤100000:=by simpa using ha
   have hb3:b.length+1≤100000:=by simpa using hb
   refine VCx.freezeRow hren (ak ac aa vC ah (HQ (cj q) (cj r) (an a) (an b) (a.length+1) [] tok tok1 tok2 (.row 2 2 0 ((a.length+1)+(b.length+1))) ⟨[.row (zP ((a.length+1)+(b.length+1)))], []⟩ ⟨[.gone, .row (an (q::a)).flatten], []⟩ ⟨[.gone, .gone, .row ((an (q::a)).flatten++(an (r::b)).flatten)], []⟩ _) ?_)
   rw [hlen,hlen2,wz (by omega),wa (by omega)]
   refine aH oS (aH oS ⟨xq (n:=(((a.length+1)+(b.length+1):Nat):Int)) (by omega) (by omega) 0 ⟨[], []⟩, ?_, ?_,ia (by simp [an]) hza ?_⟩)
   ·exact Gt (q:=cj q) (a:=an a) (n:=0) (cs:=zP ((a.length+1)+(b.length+1))) rfl (by omega) (by rw [bw];omega) (by rw [bw,Nat.zero_add]) (by rw [Nat.zero_mul,List.take_zero];rfl)
   ·exact Gt (q:=cj r) (a:=an b) (T:=⟨[.gone, .row (an (q::a)).flatten], []⟩) (id:=1) (n:=a.length+1) (cs:=(an (q::a)).flatten) rfl (by rw [zm];simp) (by rw [bw];omega) (by rw [bw]) (by rw [List.take_of_length_le (by rw [zm];simp)];rfl)
   ·simp [an];omega
theorem H0:∀ro ys T K,Bg ro ys T K→VCx Tryz.prog ae ro oN ys T K:=by
 intro ro ys T K hw
 unfold Bg at hw
 split at hw
 ·rename_i a tok1 b tok2 tok
  obtain ⟨⟨⟨a,rfl,ha⟩,b,rfl,hb⟩,hk⟩:=hw
  refine VCx.liftPure ap (KL ha hb) (by simp only [av,bG,TV.ren,cd];rfl) (fun f g=> ?_) hk
  simp only [TV.ren,Tok.ren]
  rw [bS,List.map_append,←bS,←bS,cd,cd]
 ·exact hw.elim
theorem jS (a b:List (Int × Int)):an a++an b=an (a++b):=(List.map_append ..).symm
theorem H2 {a b:List (Int × Int)} {tok tok1 tok2:Tok} (ha:a.length≤100000) (hb:b.length≤100000):VCx Tryz.prog ae 0 xi [qV, .vec 1 [[.vec 2 (an a) tok1], [.vec 2 (an b) tok2]] tok] ⟨[], []⟩ fun x T' =>x= .val (.bool (!jq (an a++an b)))∧T' =⟨[], []⟩:=by
 have hS:aQ Tryz.prog ae (aw [(oN,Bg),(xh,Bf)]):=aE fun p hp=>by
  rcases List.mem_cons.1 hp with rfl | hp;exact H0
  obtain rfl:=List.mem_singleton.1 hp;exact HV
 exact VCx.keepQ 0 0 (Nat.le_refl _) (Nat.le_refl _) (ak ac aa hS ah (KD (an a) (an b) tok tok1 tok2 _) ⟨⟨⟨a,rfl,ha⟩,b,rfl,hb⟩,⟨⟨rfl,rfl⟩,a++b,jS a b,by rw [List.length_append];omega⟩,rfl,rfl⟩)
theorem H3:∀ro ys T K,Bh ro ys T K→VCx Tryz.prog ae ro xi ys T K:=by
 intro ro ys T K hw
 unfold Bh at hw
 split at hw
 ·rename_i a tok1 b tok2 tok
  obtain ⟨⟨⟨a,rfl,ha⟩,b,rfl,hb⟩,hk⟩:=hw
  exact VCx.liftPure ap (H2 ha hb) (by simp only [av,bG,TV.ren,cd];rfl) (fun _ _=>rfl) hk
 ·exact hw.elim
end
--MbJ
section
open Go.RowKit

theorem H4 {b:Bs} (h:IsB b):∀e∈b,e.length=1:=h.len1
theorem KM {a b c:Bs} {tok tok1 tok2 tok3:Tok} (h:xm a b c):VCx Tryz.prog ae 0 zf [.vec 1 [[.vec 1 a tok1], [.vec 1 b tok2], [.vec 1 c tok3]] tok] ⟨[], []⟩ fun x T' =>x= .vec 1 (a++(b++c)) .none∧T' =⟨[], []⟩:=by
 obtain ⟨⟨ha,hane⟩,⟨hb,hbne⟩,hc,hl⟩:=h
 have hbc:IsB (b++c):=IsB.append hb hc (by rw [List.length_append];omega)
 have habc:IsB (a++(b++c)):=IsB.append ha hbc (by rw [List.length_append,List.length_append];omega)
 have hfa:=uV ha
 have hfb:=uV hb
 have hz:=H4 habc
 match a,b,hane,hbne with
 | q::a,r::b,_,_=>
  have hz2:(zR ((q::a).length+(r::b).length)).length=_:=Kr _
  cases c with
  | nil=>
   refine VCx.freezeRow habc.ren (ak ac aa Kv ah (KF q r a b (q::a).length ((q::a).length+(r::b).length) tok tok1 tok2 tok3 (.row 1 2 0 0) ⟨[.row (zR ((q::a).length+(r::b).length+0))], []⟩ ⟨[.gone, .row (q::a).flatten], []⟩ ⟨[.gone, .gone, .row ((q::a).flatten++(r::b).flatten)], []⟩ ⟨[], []⟩ _) ?_)
   rw [wz (by omega),wa (by omega),wa (by simp only [List.length_cons] at hl ⊢;omega)]
   refine aH oS (aH oS (aH oS ⟨Gl (n:=(((q::a).length+(r::b).length+0:Nat):Int)) (by simp only [List.length_cons];omega) (by omega) 0 ⟨[], []⟩, ?_, ?_,ia (by simp) hz (by simp;omega)⟩))
   ·exact Dp (q:=q) (a:=a) (n:=0) (cs:=zR ((q::a).length+(r::b).length+0)) rfl (by omega) (by simp only [List.length_cons] at hl;omega) (by simp only [List.length_cons];omega) (by rw [Nat.zero_mul,List.take_zero];rfl)
   ·exact Dp (q:=r) (a:=b) (T:=⟨[.gone, .row (q::a).flatten], []⟩) (id:=1) (n:=(q::a).length) (cs:=(q::a).flatten) rfl (by rw [hfa];omega) (by simp only [List.length_cons] at hl ⊢;omega) (by simp only [List.length_cons]) (by rw [List.take_of_length_le (by rw [hfa];omega)])
  | cons s c=>
   refine VCx.freezeRow habc.ren (ak ac aa Kv ah (Nm q r s a b c (q::a).length ((q::a).length+(r::b).length) tok tok1 tok2 tok3 (.row 1 3 0 ((q::a).length+(r::b).length+(s::c).length)) ⟨[.row (zR ((q::a).length+(r::b).length+(s::c).length))], []⟩ ⟨[.gone, .row (q::a).flatten], []⟩ ⟨[.gone, .gone, .row ((q::a).flatten++(r::b).flatten)], []⟩ ⟨[.gone, .gone, .gone, .row ((q::a).flatten++(r::b).flatten++(s::c).flatten)], []⟩ _) ?_)
   rw [wz (by omega),wa (by omega),wa (by omega)]
   refine aH oS (aH oS (aH oS ⟨Gl (n:=(((q::a).length+(r::b).length+(s::c).length:Nat):Int)) (by simp only [List.length_cons];omega) (by omega) 0 ⟨[], []⟩, ?_, ?_, ?_,ia (by simp) hz (by simp;omega)⟩))
   ·exact Dp (q:=q) (a:=a) (n:=0) (cs:=zR ((q::a).length+(r::b).length+(s::c).length)) rfl (by omega) (by simp only [List.length_cons] at hl;omega) (by simp only [List.length_cons];omega) (by rw [Nat.zero_mul,List.take_zero];rfl)
   ·exact Dp (q:=r) (a:=b) (T:=⟨[.gone, .row (q::a).flatten], []⟩) (id:=1) (n:=(q::a).length) (cs:=(q::a).flatten) rfl (by rw [hfa];omega) (by simp only [List.length_cons] at hl ⊢;omega) (by simp only [List.length_cons]) (by rw [List.take_of_length_le (by rw [hfa];omega)])
   ·exact Dp (q:=s) (a:=c) (T:=⟨[.gone, .gone, .row ((q::a).flatten++(r::b).flatten)], []⟩) (id:=2) (n:=(q::a).length+(r::b).length) (cs:=(q::a).flatten++(r::b).flatten) rfl (by rw [List.length_append,hfa,hfb];omega) (by simp only [List.length_cons] at hl ⊢;omega) (by simp only [List.length_cons]) (by rw [List.take_of_length_le (by rw [List.length_append,hfa,hfb];omega)])
theorem H5:∀ro ys T K,Bi ro ys T K→VCx Tryz.prog ae ro zf ys T K:=by
 intro ro ys T K hw
 unfold Bi at hw
 split at hw
 ·rename_i a tok1 b tok2 c tok3 tok
  obtain ⟨h,hk⟩:=hw
  have hbc:IsB (b++c):=IsB.append h.2.1.1 h.2.2.1 (by have:=h.2.2.2;rw [List.length_append];omega)
  have habc:IsB (a++(b++c)):=IsB.append h.1.1 hbc (by have:=h.2.2.2;rw [List.length_append,List.length_append];omega)
  exact VCx.liftPure ap (KM h) (by simp only [av,bG,TV.ren,h.1.1.ren,h.2.1.1.ren,h.2.2.1.ren];rfl) (fun f g=>by simp only [TV.ren,habc.ren,Tok.ren]) hk
 ·exact hw.elim
theorem KN {b:Bs} (hb:tP b):VCx Tryz.prog ae 0 xj [.vec 1 b .none] ⟨[], []⟩ fun x T' =>x= .vec 1 (bh 2 b.length++b) .none∧T' =⟨[], []⟩:=by
 have hp:=dd (k:=2) (b.length:Int) (by decide)
 have hl:=co (k:=2) (b.length:Int)
 have hi:=IsB.append hp hb.1 (by rw [List.length_append,hl];have:=hb.2;omega)
 refine VCx.toLe (Q:=fun T' =>T' =⟨[], []⟩) (VCx.keepQ 0 0 (Nat.le_refl _) (Nat.le_refl _) (ak ac aa (aE fun p hp=>by obtain rfl:=List.mem_singleton.1 hp;exact zk) ah (Nk b (bh 2 b.length++b) (0+b.length) _) ⟨rfl,⟨⟨by omega,by have:=hb.2;omega⟩,by decide,by decide⟩, ?_, ?_,rfl⟩))
 ·exact pC (ro:=0) (T:=⟨[], [(0,1,false)]⟩) (T1:=⟨[], [(0,1,false)]⟩) (s:= .tmp 5) (x:= .tmp 6) (l:= [(5, .vec 1 (bh 2 b.length) (.tail 0 0)),(6, .vec 1 b .none)]) (es:=bh 2 b.length) (es2:=b) (k:=0) (n:=0) (bn:=false) rfl rfl (by rw [hl];have:=hb.2;omega)
 ·simp only [TV.ren,hi.ren]
  exact .vec 1 _ _
theorem H6:VCx Tryz.prog ae 0 xj [.val (.slice none 0 0)] ⟨[], []⟩ fun x T' =>x= .vec 1 (bh 2 0) .none∧T' =⟨[], []⟩:=by
  have hp:=dd (k:=2) 0 (by decide)
  refine VCx.toLe (Q:=fun T' =>T' =⟨[], []⟩) (VCx.keepQ 0 0 (Nat.le_refl _) (Nat.le_refl _) (ak ac aa (aE fun p hp=>by obtain rfl:=List.mem_singleton.1 hp;exact zk) ah (KE (bh 2 0) 0 _) ⟨rfl,⟨⟨by decide,by decide⟩,by decide,by decide⟩, ?_, ?_,rfl⟩))
  · have h:=pC (ro:=0) (T:=⟨[], [(0,1,false)]⟩) (T1:=⟨[], [(0,1,false)]⟩) (s:= .tmp 5) (x:= .tmp 6) (l:= [(5, .vec 1 (bh 2 0) (.tail 0 0)),(6, .val (.slice none 0 0))]) (es:=bh 2 0) (es2:= []) (k:=0) (n:=0) (bn:=false) rfl rfl (by rw [co];decide)
    rw [List.append_nil] at h
    exact h
  · simp only [TV.ren,hp.ren]
    exact .vec 1 _ _
theorem KO:∀ro ys T K,Gs ro ys T K→VCx Tryz.prog ae ro xj ys T K:=by
 intro ro ys T K hw
 unfold Gs at hw
 split at hw
 ·exact VCx.liftPure ap H6 rfl (fun f g=>by simp only [TV.ren,(dd (k:=2) 0 (by decide)).ren,Tok.ren]) hw
 ·rename_i b tok
  obtain ⟨hb,hk⟩:=hw
  have hi:=IsB.append (dd (k:=2) (b.length:Int) (by decide)) hb.1 (by rw [List.length_append,co];have:=hb.2;omega)
  refine VCx.loosePure ap (KN hb) (by simp [cB]) (by simp only [av,TV.ren,hb.1.ren,Tok.ren]) (fun f g=>by simp only [TV.ren,hi.ren,Tok.ren]) hk
 ·exact hw.elim
theorem Dq (ok:Bool):∀ro ys T K,zi ok ro ys T K→VCx Tryz.prog ae ro oL ys T K:=by
 intro ro ys T K hw
 unfold zi at hw
 split at hw
 ·obtain ⟨⟨a,rfl,hn,rfl,rfl⟩,hk⟩:=hw
  refine VCx.liftPure ap (xs:= [.agg a.cells, .agg Fs]) (VCx.argsLe (xs:= [.agg a.cells, .agg bm.cells]) ?_ (Dh a bm hn (Nat.zero_le _))) ?_ (fun _ _=>rfl) hk
  ·exact ⟨.refl _, .agg ⟨.refl _, .nil 1, .refl _, .refl _, .refl _,trivial⟩,trivial⟩
  ·simp only [av,TV.ren,a.ren];rfl
 ·exact hw.elim
theorem KP (ok:Bool):∀ro ys T K,Dj ok ro ys T K→VCx Tryz.prog ae ro oL ys T K:=by
 intro ro ys T K hw
 unfold Dj at hw
 split at hw
 ·obtain ⟨⟨a,b,⟨rfl,rfl⟩,⟨hn,hn2⟩,rfl⟩,hk⟩:=hw
  exact VCx.liftPure ap (Dh a b hn hn2) (by simp only [av,TV.ren,a.ren,b.ren]) (fun _ _=>rfl) hk
 ·exact hw.elim
theorem KQ (v:Bs):∀ro ys T K,Gp v ro ys T K→VCx Tryz.prog ae ro C7 ys T K:=by
 intro ro ys T K hw
 unfold Gp at hw
 split at hw
 ·obtain ⟨⟨a,rfl,hn,hh,rfl⟩,hk⟩:=hw
  exact VCx.liftPure ap (Kp a hn hh) (by simp only [av,TV.ren,a.ren]) (fun f g=>by simp only [TV.ren,(xc a).ren,Tok.ren]) hk
 ·exact hw.elim
theorem KR:∀ro ys T K,Gq ro ys T K→VCx Tryz.prog ae ro kx ys T K:=by
 intro ro ys T K hw
 unfold Gq at hw
 split at hw
 ·obtain ⟨⟨p,rfl,hp⟩,hk⟩:=hw
  unfold gS at hk
  rw [pH] at hk
  exact VCx.loosePure ap (HG hp) (by simp [cB,an]) (by simp only [av,TV.ren,kr,Tok.ren]) (fun f g=>by simp only [TV.ren,(iI hp).ren,Tok.ren]) hk
 ·exact hw.elim
theorem KT {u:UpV} (hu:ib u):VCx Tryz.prog ae 0 NY [.agg u.cells] ⟨[], []⟩ fun x T' =>x= .val (.bool (dO u))∧T' =⟨[], []⟩:=by
 obtain ⟨h1,h2,h3,h4,h5⟩:=hu
 have hS:aQ Tryz.prog ae (aw [(xi,Bh),(sx,uT (cX u.a)),(oL,zi (decide (u.a=bm)))]):=aE fun p hp=>by
  rcases List.mem_cons.1 hp with rfl | hp;exact H3
  rcases List.mem_cons.1 hp with rfl | hp;exact xd _
  obtain rfl:=List.mem_singleton.1 hp;exact Dq _
 refine VCx.keepQ 0 0 (Nat.le_refl _) (Nat.le_refl _) (ak ac aa hS ah (Nj (an u.w) (iV u.a.p) (an u.n) u.a.o u.a.h u.a.m u.a.hm (cX u.a) (decide (u.a=bm)) _) ⟨⟨⟨_,rfl,by omega⟩,_,rfl,by omega⟩, ?_⟩)
 rw [jS,zl,Bool.not_not,bw]
 have fin:∀(q:Bool) (T:VT),dO u=q→((TV.val (.bool q)).ren (au 0) (au 0)= .val (.bool (dO u))∧T.keep 0 0=⟨[], []⟩):=fun b T h=>⟨by rw [h];rfl,by simp [VT.keep]⟩
 cases hg:(u.w++u.n).all fun p=>dN p.1 p.2
 ·exact aN rfl (fin false _ (by unfold dO;rw [hg];rfl))
 ·refine aH rfl (aF (fun c=>⟨⟨u.a,rfl,h3,rfl⟩,fin _ _ ?_⟩) (fun c=>⟨⟨u.a,rfl,h3,rfl,rfl⟩,fin _ _ ?_⟩))
  ·unfold dO;rw [hg,c];rfl
  ·unfold dO;rw [hg,c];rfl
theorem Dr {u:UpV} (hu:ib u) (hg:dO u=true):na u.w∧na u.n:=by
 obtain ⟨h1,h2,_⟩:=hu
 unfold dO at hg
 have h:=(Bool.and_eq_true _ _▸hg).1
 rw [List.all_eq_true] at h
 exact ⟨⟨fun p hp=>xp (h p (List.mem_append.2 (.inl hp))),by omega⟩,⟨fun p hp=>xp (h p (List.mem_append.2 (.inr hp))),by omega⟩⟩
theorem KU (u:UpV):IsB (oQ u)∧(oQ u).length≤10040:=by
 unfold oQ
 cases decide ((u.n.length:Int)>0)
 ·exact ⟨.nil,Nat.zero_le _⟩
 ·exact ⟨xc _,ze _⟩
theorem Ds {b:Bs} (h:0<b.length):b≠ []:=List.length_pos_iff.1 h
theorem Dt {u:UpV} (hu:ib u) (hg:dO u=true):xm (bh 2 (c8 u.w).length++c8 u.w) (bh 2 (oQ u).length++oQ u) (c8 u.n):=by
 obtain ⟨hw,hn⟩:=Dr hu hg
 obtain ⟨h1,h2,_⟩:=hu
 obtain ⟨a1,a2⟩:=KU u
 have l1:=fI u.w
 have l2:=fI u.n
 have p2:∀z:Int,(bh 2 z).length=2:=fun z=>co z
 refine ⟨⟨IsB.append (dd _ (by decide)) (iI hw) ?_,Ds ?_⟩,⟨IsB.append (dd _ (by decide)) a1 ?_,Ds ?_⟩,iI hn, ?_⟩<;>simp only [List.length_append,p2]<;>omega
theorem Du {u:UpV} (hu:ib u) (hg:dO u=true):IsB (qi u):=by
 have h:=Dt hu hg
 exact IsB.append h.1.1 (IsB.append h.2.1.1 h.2.2.1 (by have:=h.2.2.2;simp only [List.length_append] at this ⊢;omega)) (by have:=h.2.2.2;simp only [List.length_append] at this ⊢;omega)
theorem KV {u:UpV} (hu:ib u) (hg:dO u=true):VCx Tryz.prog ae 0 NZ [.agg u.cells] ⟨[], []⟩ fun x T' =>x= .vec 1 (qi u) .none∧T' =⟨[], []⟩:=by
 have hS:aQ Tryz.prog ae (aw [(C7,Gp (jp u.a)),(kx,Gq),(xj,Gs),(zf,Bi)]):=aE fun p hp=>by
  rcases List.mem_cons.1 hp with rfl | hp;exact KQ _
  rcases List.mem_cons.1 hp with rfl | hp;exact KR
  rcases List.mem_cons.1 hp with rfl | hp;exact KO
  obtain rfl:=List.mem_singleton.1 hp;exact H5
 obtain ⟨hw,hn⟩:=Dr hu hg
 have hc:=Dt hu hg
 have hB:=Du hu hg
 have l1:=fI u.w
 obtain ⟨h1,h2,h3,h4,h5⟩:=hu
 have e1:gS (an u.w)=c8 u.w:=by unfold gS;rw [pH]
 have e2:gS (an u.n)=c8 u.n:=by unfold gS;rw [pH]
 have fin:∀(v:Bs) (T:VT),v=qi u→((TV.vec 1 v .none).ren (au 0) (au 0)= .vec 1 (qi u) .none∧T.keep 0 0=⟨[], []⟩):=fun v T h=>⟨by subst h;simp only [TV.ren,hB.ren,Tok.ren],by simp [VT.keep]⟩
 refine VCx.keepQ 0 0 (Nat.le_refl _) (Nat.le_refl _) (ak ac aa hS ah (Nl (an u.w) (iV u.a.p) (an u.n) (jp u.a) u.a.o u.a.h u.a.m u.a.hm _) ?_)
 rw [e1,e2,bw]
 have cw:tP (c8 u.w):=⟨iI hw,by omega⟩
 have hA:∀c,decide ((u.n.length:Int)>0)=c→oQ u=bif c then jp u.a else []:=fun c h=>by unfold oQ;rw [h]
 refine aF (fun c=> ?_) (fun c=> ?_)
 ·have e:=hA _ c
  simp only [cond_true] at e
  rw [e] at hc
  exact ⟨⟨u.a,rfl,h3,⟨h4,h5⟩,rfl⟩,⟨_,rfl,hw⟩,⟨rfl,rfl,trivial⟩,cw,⟨rfl,rfl,trivial⟩,⟨xc _,by have:=ze u.a;omega⟩,⟨rfl,rfl,trivial⟩,⟨_,rfl,hn⟩,hc,fin _ _ (by unfold qi;rw [e])⟩
 ·have e:=hA _ c
  simp only [cond_false] at e
  have e2:bh (2:Int) ((([]:Bs).length:Nat):Int)++ []=bh 2 0:=by rw [List.append_nil];rfl
  rw [e,e2] at hc
  exact ⟨⟨_,rfl,hw⟩,⟨rfl,rfl,trivial⟩,cw,⟨rfl,rfl,trivial⟩,⟨rfl,rfl,trivial⟩,⟨_,rfl,hn⟩,hc,fin _ _ (by unfold qi;rw [e,e2])⟩
end
--Po2
set_option maxRecDepth 100000
--Pfx2
section
open Go.RowKit

def gf (a b:Int):Int:=if a<b then-1 else if b<a then 1 else 0
set_option maxHeartbeats 400000 in
theorem KW (a b:Int) (w:World):Calls Tryz.prog 47 #[.int .u32 a, .int .u32 b] w fun e w' =>e= .returned (.int .i64 (gf a b))∧w=w' :=by
 go_enter Tryz.func47,Tryz.ntmps47
 go_wp2
 all_goals (go_ret;exact ⟨yz (by unfold gf;first | rw [if_pos ‹_›] | rw [if_neg (by omega),if_pos (by omega)] | rw [if_neg (by omega),if_neg (by omega)]),rfl⟩)
set_option maxHeartbeats 400000 in
theorem Nn (a b:Int) (w:World):Calls Tryz.prog 48 #[.int .i64 a, .int .i64 b] w fun e w' =>e= .returned (.int .i64 (gf a b))∧w=w' :=by
 go_enter Tryz.func48,Tryz.ntmps48
 go_wp2
 all_goals (go_ret;exact ⟨yz (by unfold gf;first | rw [if_pos ‹_›] | rw [if_neg (by omega),if_pos (by omega)] | rw [if_neg (by omega),if_neg (by omega)]),rfl⟩)

def jr:List Int→Int
 | []=>0
 | x::r=>if x=0 then jr r else x
theorem qW:∀(zs:List Int) (k:Nat),(∀j,j<k→zs.getD j 0=0)→jr zs=jr (zs.drop k)
 | [],_,_=>by simp
 | x::r,0,_=>by simp
 | x::r,k+1,h=>by
  have h0:=h 0 (by omega)
  simp at h0
  simp only [jr,h0,if_true,List.drop_succ_cons]
  exact qW r k (fun j hj=>by have:=h (j+1) (by omega);simpa using this)

set_option maxHeartbeats 400000 in
theorem OM (zs:List Int) (w:World) (pb po:Nat) (hn:zs.length≤1000) (hc:∀j,j<zs.length→w.cell? ⟨pb,po+j,none⟩=some (.int .i64 (zs.getD j 0))):
    Calls Tryz.prog 46 #[.slice (some ⟨pb,po,none⟩) zs.length zs.length] w fun e w' =>e= .returned (.int .i64 (jr zs))∧w=w' :=by
  have HC:=Lib.hid hc
  clear hc
  go_enter Tryz.func46,Tryz.ntmps46
  go_wp2
  go_loop [5,8] (fun _ i=>∃k:Nat,k≤zs.length∧i= .int .i64 k∧∀j,j<k→zs.getD j 0=0) (fun _ i=>zs.length-(intOf i).toNat)
  case atStart=>exact ⟨0,Nat.zero_le _,rfl,fun j hj=>absurd hj (by omega)⟩
  case round=>
    obtain ⟨k,hk,rfl,hz⟩:=hrel
    have HZ:=Lib.hid hz
    clear hz
    by_cases hlt:k<zs.length
    · have c0:=HC.out k hlt
      generalize hx:zs.getD k 0=x at c0
      have HX:=Lib.hid hx
      clear hx
      by_cases h0:x=0
      · subst h0
        go_wp2
        go_round
        case rel=>exact ⟨k+1,by omega,by go_num,fun j hj=>by
          rcases Nat.lt_or_ge j k with h | h
          · exact HZ.out j h
          · obtain rfl:j=k:=by omega
            exact HX.out⟩
        case measure=>simp [intOf];omega
      · have e1:=Lib.hid (show jr zs=x by
          rw [qW zs k HZ.out,List.drop_eq_getElem_cons hlt]
          have:zs[k]=x:=by rw [←HX.out];simp [hlt]
          simp only [jr,this,h0,if_false])
        have h0' :(x !=0)=true:=by simpa using h0
        clear h0
        go_wp2
        go_ret
        exact ⟨by rw [e1.out];rfl,rfl⟩
    · have e1:=Lib.hid (show jr zs=0 by
        rw [qW zs k HZ.out,List.drop_eq_nil_of_le (by omega)];rfl)
      go_wp2
      go_ret
      exact ⟨by rw [e1.out];rfl,rfl⟩

def ez (a:Int) (n:Int) (b:Int) (m:Int):Int:=jr [gf a b,gf n m]
end
--PREv
section
open Go.RowKit

def N2 (a n:Int):List TV:= [.val (.int .u32 a), .val (.int .i64 n)]
end
--PRCmp
section
open Go.RowKit

set_option maxHeartbeats 400000 in
theorem No (a n b m:Int) (w:World):
  Calls Tryz.prog 29 #[.agg #[.int .u32 a, .int .i64 n], .agg #[.int .u32 b, .int .i64 m]] w fun e w' =>e= .returned (.int .i64 (ez a n b m))∧Gd w w' :=by
 have d0:=vN ((Gr.refl _).alloc (.cells #[.int .u32 b, .int .i64 m] 48)) (jH w [.int .u32 a, .int .i64 n] 48 0 _ rfl)
 have d1:=vN ((Gr.refl _).alloc (.cells #[.int .u32 b, .int .i64 m] 48)) (jH w [.int .u32 a, .int .i64 n] 48 1 _ rfl)
 have d2:=jH (w.alloc (.cells #[.int .u32 a, .int .i64 n] 48)) [.int .u32 b, .int .i64 m] 48 0 _ rfl
 have d3:=jH (w.alloc (.cells #[.int .u32 a, .int .i64 n] 48)) [.int .u32 b, .int .i64 m] 48 1 _ rfl
 have gw:=((Gr.refl w).alloc (.cells #[.int .u32 a, .int .i64 n] 48)).alloc (.cells #[.int .u32 b, .int .i64 m] 48)
 simp only [World.size_alloc] at d2 d3
 go_enter Tryz.func29,Tryz.ntmps29
 go_wp2_with fail
 have hd:((w.alloc (.cells #[.int .u32 a, .int .i64 n] 48)).alloc (.cells #[.int .u32 b, .int .i64 m] 48)).drawn=w.drawn:=rfl
 generalize (w.alloc (.cells #[.int .u32 a, .int .i64 n] 48)).alloc (.cells #[.int .u32 b, .int .i64 m] 48)=W at*
 replace gw:Gd w W:=⟨gw,by omega⟩
 replace d0:=fun w' (k:Gd W w')=>d0 w' k.1
 replace d1:=fun w' (k:Gd W w')=>d1 w' k.1
 replace d2:=fun w' (k:Gd W w')=>d2 w' k.1
 replace d3:=fun w' (k:Gd W w')=>d3 w' k.1
 have hS0:=(Gd.refl W).drew
 refine fQ [(0,true),(1,true),(2,true),(3,true),(5,true),(6,true),(7,true),(8,true),(4,false),(9,false),(10,false),(11,false),(12,true)] (Gd W) (by kernel_rfl) (by kernel_rfl) hS0 ?_
 simp only [fP,List.getElem?_toArray,List.getElem?_cons_zero,List.getElem?_cons_succ]
 repeat (first
  | (refine iN (by rfl) ?_;(try simp only [Act.put,List.setIfInBounds_toArray,List.set_cons_zero,List.set_cons_succ]))
  | (refine iO (by rfl) ?_;apply Exists.intro;refine ⟨fun w' hSw=> ?_, ?_⟩;(focus ((try dsimp only at hSw);go_simp;first | done | with_reducible rfl));(try simp only [Act.put,List.setIfInBounds_toArray,List.set_cons_zero,List.set_cons_succ]))
  | (refine gG (by rfl) (fun K hK=> ?_);go_simp;(first | (go_at_call 47;refine (KW _ _ _).mono ?_;rintro e w2 ⟨rfl,rfl⟩) | (go_at_call 48;refine (Nn _ _ _).mono ?_;rintro e w2 ⟨rfl,rfl⟩) | (go_at_call 46;refine (OM [gf a b,gf n m] _ _ 0 (by simp) ?_).mono ?_;(focus (intro j hj;simp at hj;obtain rfl | rfl:j=0∨j=1:=(by omega))<;>simp);rintro e w2 ⟨rfl,rfl⟩));refine hK _ _ (by first | exact Gd.alloc (by assumption) _ | assumption) (fun hSn=> ?_);clear hK K;(try simp only [Act.put,List.setIfInBounds_toArray,List.set_cons_zero,List.set_cons_succ]))
  | (refine gG (by rfl) (fun K hK=> ?_);go_simp;refine hK _ _ (by first | exact Gd.alloc (by assumption) _ | assumption) (fun hSn=> ?_);clear hK K;(try simp only [Act.put,List.setIfInBounds_toArray,List.set_cons_zero,List.set_cons_succ])))
 refine ju ?_
 go_wp2
 go_ret
 exact ⟨rfl,gw.trans (by assumption)⟩
def ll (x y:Int × Int):Int:=jr [gf x.1 y.1,gf x.2 y.2]
end
--PRLaw
section
open Go.RowKit Go.Sort Go.Shelf

abbrev Px:=Int × Int
def cU (x y:Px):Prop:=x.1<y.1∨(x.1=y.1∧x.2<y.2)
instance (x y:Px):Decidable (cU x y):=by unfold cU;infer_instance
theorem cI (x:Px):¬cU x x:=by unfold cU;omega
theorem fZ {x y z:Px} (h:cU x y) (k:cU y z):cU x z:=by unfold cU at*;omega
theorem jA {x y:Px} (h:¬cU x y) (k:¬cU y x):x=y:=by
 obtain ⟨a,b⟩:=x;obtain ⟨c,d⟩:=y
 unfold cU at*
 simp only at*
 have:a=c∧b=d:=by omega
 rw [this.1,this.2]
theorem sC:∀{l m:List Px},l.Pairwise cU→m.Pairwise cU→(∀x,x∈l ↔ x∈m)→l=m
  | [], [],_,_,_=>rfl
  | [],b::m,_,_,h=>by have:=(h b).2 (by simp);simp at this
  | a::l, [],_,_,h=>by have:=(h a).1 (by simp);simp at this
  | a::l,b::m,hl,hm,h=>by
    obtain ⟨hl1,hl2⟩:=List.pairwise_cons.1 hl
    obtain ⟨hm1,hm2⟩:=List.pairwise_cons.1 hm
    have e:a=b:=by
      rcases List.mem_cons.1 ((h a).1 (by simp)) with h1 | h1
      · exact h1
      · rcases List.mem_cons.1 ((h b).2 (by simp)) with h2 | h2
        · exact h2.symm
        · exact absurd (fZ (hm1 a h1) (hl1 b h2)) (cI b)
    subst e
    congr 1
    refine sC hl2 hm2 fun x=>⟨fun hx=> ?_,fun hx=> ?_⟩
    · rcases List.mem_cons.1 ((h x).1 (List.mem_cons_of_mem _ hx)) with rfl | h1
      · exact absurd (hl1 x hx) (cI x)
      · exact h1
    · rcases List.mem_cons.1 ((h x).2 (List.mem_cons_of_mem _ hx)) with rfl | h1
      · exact absurd (hm1 x hx) (cI x)
      · exact h1
theorem sD (x y:Px):ltOf ll x y=true ↔ cU x y:=by
 unfold ltOf ll cU
 simp only [jr,gf]
 by_cases a1:x.1<y.1
 ·simp [a1]
 ·by_cases a2:y.1<x.1
  ·simp [a1,a2];omega
  ·by_cases b1:x.2<y.2
   ·simp [a1,a2,b1];omega
   ·by_cases b2:y.2<x.2
    ·simp [a1,a2,b1,b2];try omega
    ·simp [a1,a2,b1,b2]
theorem jT (x y:Px):ltOf ll x y=false ↔ ¬cU x y:=by rw [←sD x y];simp
theorem KY:SWO (ltOf ll):=by
 refine ⟨fun x=> ?_,fun x y z h1 h2=> ?_,fun x y z h1 h2=> ?_⟩
 ·rw [jT];exact cI x
 ·rw [sD] at*;exact fZ h1 h2
 ·rw [jT] at*;unfold cU at*;omega
theorem FA (x y:Px) (h1:ltOf ll x y=false) (h2:ltOf ll y x=false):x=y:=by
 rw [jT] at h1 h2;exact jA h1 h2
def gz (l:List Px):List Px:=l.mergeSort fun x y=> !(ltOf ll) y x
theorem Dv (l:List Px):(gz l).length=l.length:=List.length_mergeSort l
theorem xr (l:List Px):(gz l).Pairwise (fun x y=>¬cU y x):=by
 have:=List.pairwise_mergeSort (le:=fun x y=> !(ltOf ll) y x) (fun a b c h1 h2=> ?_) (fun a b=> ?_) l
 ·refine List.Pairwise.imp ?_ this
  intro a b h
  exact (jT b a).1 (by simpa using h)
 ·simp only [Bool.not_eq_eq_eq_not,Bool.not_true] at*
  rw [jT] at*
  unfold cU at*;omega
 ·cases h:ltOf ll b a with
  | false=>simp
  | true=>
   have h1:=(sD b a).1 h
   have:ltOf ll a b=false:=(jT a b).2 fun k=>cI a (fZ k h1)
   simp [this]
end
--PRRef
section
open Go.RowKit

end
--PRCpt
section
open Go.RowKit

end
--PRSort
section
open Go.RowKit Go.Sort Go.Shelf

end
--PRL
section
open Go.RowKit

end
--RbA
section
open Go.RowKit

def kP:KS:=⟨true, [.int .u32, .int .i64]⟩
def dz (p:Px):Value:= .agg #[.int .u32 p.1, .int .i64 p.2]
def KZ:Value→Px
 | .agg #[.int _ a, .int _ n]=>(a,n)
 | _=>(0,0)
end
--RbB
section
open Go.RowKit

theorem FB (p:Px):KZ (dz p)=p:=rfl
section
variable {lk:Value→Option TV} {es:List (Value × TV × Nat)} {ck:Nat}
end
end
--RbC
section
open Go.RowKit

abbrev kz:=Value→Option TV
abbrev jt:=List (Value × TV × Nat)
def Bj (a:AtV):TV:= .agg a.cells
def uX (p:Px) (a:AtV) (g:Bool):Bool:=dN p.1 p.2&&bif g then decide (a=bm) else cX a
abbrev Dw:=17
def N3 (a n:Int):TV:= .agg [.val (.int .u32 a), .val (.int .i64 n)]
def az (a n:Int) (x:AtV) (g:Bool):List TV:= [.val (.int .u32 a), .val (.int .i64 n)]++x.cells++ [.val (.bool g)]
theorem Np (a n:Int) (x:AtV) (g ok ok2:Bool) (Q:TV→VT→Prop):aq Tryz.prog ae (aw [(xg,zh),(sx,uT ok),(oL,zi ok2)]) (aA [(999998, .dead,none)]) 300 aD 0 Dw [.agg (az a n x g)] ⟨[], []⟩ Q=
 (bif g
 then (bif dN a n
 then (xk [(.val (.int .i64 (AtV.o x))),(.vec 1 (iV (AtV.p x)) .none),(.val (.int .u32 (AtV.h x))),(.val (.int .i64 (AtV.m x))),(.val (.bool (AtV.hm x)))] [(.val (.int .i64 0)),(.val (.slice .none 0 0)),(.val (.int .u32 0)),(.val (.int .i64 0)),(.val (.bool false))] (ok2)∧
 Q (.val (.bool (ok2))) ⟨[(.cells [(.val (.int .u32 (a))),(.val (.int .i64 (n))),(.val (.int .i64 (AtV.o x))),(.vec 1 (iV (AtV.p x)) .none),(.val (.int .u32 (AtV.h x))),(.val (.int .i64 (AtV.m x))),(.val (.bool (AtV.hm x))),(.val (.bool (g)))])], []⟩)
 else Q (.val (.bool false)) ⟨[(.cells [(.val (.int .u32 (a))),(.val (.int .i64 (n))),(.val (.int .i64 (AtV.o x))),(.vec 1 (iV (AtV.p x)) .none),(.val (.int .u32 (AtV.h x))),(.val (.int .i64 (AtV.m x))),(.val (.bool (AtV.hm x))),(.val (.bool (g)))])], []⟩)
 else (bif dN a n
 then (tN [(.val (.int .i64 (AtV.o x))),(.vec 1 (iV (AtV.p x)) .none),(.val (.int .u32 (AtV.h x))),(.val (.int .i64 (AtV.m x))),(.val (.bool (AtV.hm x)))] (ok)∧
 Q (.val (.bool (ok))) ⟨[(.cells [(.val (.int .u32 (a))),(.val (.int .i64 (n))),(.val (.int .i64 (AtV.o x))),(.vec 1 (iV (AtV.p x)) .none),(.val (.int .u32 (AtV.h x))),(.val (.int .i64 (AtV.m x))),(.val (.bool (AtV.hm x))),(.val (.bool (g)))])], []⟩)
 else Q (.val (.bool false)) ⟨[(.cells [(.val (.int .u32 (a))),(.val (.int .i64 (n))),(.val (.int .i64 (AtV.o x))),(.vec 1 (iV (AtV.p x)) .none),(.val (.int .u32 (AtV.h x))),(.val (.int .i64 (AtV.m x))),(.val (.bool (AtV.hm x))),(.val (.bool (g)))])], []⟩)):=by kernel_rfl
end
--RbD
section
open Go.RowKit

theorem FC {p q:Px} (h:dz p=dz q):p=q:=by
 have:=congrArg KZ h
 simpa [FB] using this
theorem Gu (p:Px):kP.fits (dz p)=true:=rfl
theorem K0 (p q:Px):ar (dz p) (dz q)=decide (p=q):=by
 have h:=cV (Gu p) (Gu q)
 cases hk:ar (dz p) (dz q) with
 | true=>exact (decide_eq_true (FC (h.1 hk))).symm
 | false=>
  refine (decide_eq_false fun e=> ?_).symm
  rw [h.2 (by rw [e])] at hk;cases hk
abbrev K1:=Px × AtV
section
variable {W:List K1} {lk:kz} {es:jt} {ck:Nat}
theorem FD (a:AtV) (f g:Nat→Option Nat):(Bj a).ren f g=Bj a:=by
 simp only [Bj,AtV.cells,TV.ren,av,dw,Tok.ren]
end
end
--RbF
section
open Go.RowKit
set_option maxRecDepth 100000

theorem sE {G:aK} {T:VT} {t:TypeId} {m k:Operand} {ok:Bool} {l:List (Nat × TV)} {y:TV} (h:dG Tryz.prog T t (bb G l m) (bb G l k) ok=some y):aB Tryz.prog G 0 T (.lookup t m k ok) l y T:=by
 refine .mk ?_
 have h1:bq Tryz.prog (.lookup t m k ok) (bb G l)=none:=by simp [bq,dX]
 have h2:bf Tryz.prog T (.lookup t m k ok) (bb G l)=some y:=by simp only [bf,h]
 simp only [fw,h1,h2]
theorem AtV.ren' (a:AtV) (f g:Nat→Option Nat):av f g a.cells=a.cells:=by
 have:=FD a f g
 simp only [Bj,TV.ren] at this
 injection this
end
--RbG
section
open Go.RowKit
set_option maxRecDepth 100000

theorem Dx (p:Px) {a:AtV} (g:Bool) (ha:a.p.length≤9223372036854775807):VCx Tryz.prog ae 0 Dw [.agg (az p.1 p.2 a g)] ⟨[], []⟩ fun x T' =>x= .val (.bool (uX p a g))∧T' =⟨[], []⟩:=by
 have hS:aQ Tryz.prog ae (aw [(xg,zh),(sx,uT (cX a)),(oL,zi (decide (a=bm)))]):=aE fun q hq=>by
  rcases List.mem_cons.1 hq with rfl | hq;exact Do
  rcases List.mem_cons.1 hq with rfl | hq;exact xd _
  obtain rfl:=List.mem_singleton.1 hq;exact Dq _
 refine VCx.keepQ 0 0 (Nat.le_refl _) (Nat.le_refl _) (ak ac aa hS ah (Np p.1 p.2 a g (cX a) (decide (a=bm)) _) ?_)
 unfold uX
 refine aF (fun hg=> ?_) (fun hg=> ?_)
 ·subst hg
  refine aF (fun hp=> ?_) (fun hp=> ?_)
  ·rw [hp];exact ⟨⟨a,rfl,ha,rfl,rfl⟩,rfl,rfl⟩
  ·rw [hp];exact ⟨rfl,rfl⟩
 ·subst hg
  refine aF (fun hp=> ?_) (fun hp=> ?_)
  ·rw [hp];exact ⟨⟨a,rfl,ha,rfl⟩,rfl,rfl⟩
  ·rw [hp];exact ⟨rfl,rfl⟩
section
variable {W H:List K1} {lk lk2:kz} {es es2:jt} {ck ck2:Nat}
end
end
--RbJ
section
open Go.RowKit
set_option maxRecDepth 100000

section
variable {W H:List K1} {lk lk2:kz} {es es2:jt} {ck ck2:Nat}
theorem cf {j:Nat} (h:j≤3000000):IntKind.wrap IntKind.i64 ((j:Int)+1)=((j+1:Nat):Int):=by rw [fj (by omega) (by omega)];omega
end
end
--Po3
set_option maxRecDepth 100000
--PfxG
section
open Go.RowKit

def iY (a:Nat) (n:Int):Bool:=((a:Int)==(hd a n:Int))&&(n==(cl n:Int))
end
--PfxR
section
open Go.RowKit

theorem H7 {k:IntKind} {a b:Int} (h:a=b):Value.int k a= .int k b:=by rw [h]
theorem FE (k:Nat) (hk:k<32):bits .or .u32 ((4294967296-2^(32-k):Nat):Int) ((2:Int)^(31-k)%4294967296)=((2^32-2^(32-(k+1)):Nat):Int):=by
 have h1:2^(31-k)≤2^31:=Nat.pow_le_pow_right (by decide) (by omega)
 have h0:0<2^(32-k):=Nat.two_pow_pos _
 have e:((2:Int)^(31-k)%4294967296)=((2^(31-k):Nat):Int):=by
  have:((2:Int)^(31-k))=((2^(31-k):Nat):Int):=by simp
  rw [this]
  generalize 2^(31-k)=x at*
  omega
 rw [e,u32_or_nat _ _ (by omega) (by omega),←Hf k hk]
set_option maxHeartbeats 400000 in
theorem Gv (n:Int) (hn:-9223372036854775808≤n∧n≤9223372036854775807) (w:World):
    Calls Tryz.prog 54 #[.int .i64 n] w fun e w' =>e= .returned (.int .u32 (kg n))∧w=w' :=by
  go_enter Tryz.func54,Tryz.ntmps54
  go_wp2
  go_loop [3,4] (fun m i=>∃k:Nat,k≤cl n∧i= .int .i64 k∧m= .int .u32 ((2^32-2^(32-k):Nat):Int)) (fun _ i=>32-(intOf i).toNat)
  case atStart=>exact ⟨0,Nat.zero_le _,rfl,rfl⟩
  case round=>
    obtain ⟨k,hk,rfl,rfl⟩:=hrel
    have hcl:=A5 n
    by_cases hlt:k<cl n
    · have h1:(k:Int)<n:=by rcases ki n with ⟨_,h⟩ | ⟨_,h⟩ | ⟨_,_,h⟩<;>omega
      have h2:(k:Int)<32:=by omega
      go_wp2
      go_round
      case rel=>exact ⟨k+1,by omega,by go_num,H7 (FE k (by omega))⟩
      case measure=>simp [intOf];omega
    · obtain rfl:k=cl n:=by omega
      have e1:=Lib.hid (show (2^32-2^(32-cl n):Nat)=kg n from rfl)
      by_cases h1:(cl n:Int)<n
      · have h2:¬(cl n:Int)<32:=by rcases ki n with ⟨_,h⟩ | ⟨_,h⟩ | ⟨_,_,h⟩<;>omega
        go_wp2
        go_ret
        exact ⟨rfl,rfl⟩
      · go_wp2
        go_ret
        exact ⟨rfl,rfl⟩

theorem Dy (a:Nat) (n:Int) (ha:a<4294967296):(bits .andNot .u32 (a:Int) (kg n:Int)==(0:Int))=((a:Int)==(hd a n:Int)):=by
 rw [u32_andNot_nat a (kg n) ha (Gb n)]
 have hk:2^(32-cl n)≤2^32:=Nat.pow_le_pow_right (by decide) (by omega)
 have h0:0<2^(32-cl n):=Nat.two_pow_pos _
 have e:4294967295-kg n=2^(32-cl n)-1:=by unfold kg;omega
 rw [e,Nat.and_two_pow_sub_one_eq_mod]
 have h1:=Nat.div_add_mod a (2^(32-cl n))
 rw [Nat.mul_comm] at h1
 unfold hd
 rw [Bool.eq_iff_iff]
 simp only [beq_iff_eq]
 omega

set_option maxHeartbeats 400000 in
theorem Nq (a:Nat) (ha:a<4294967296) (n:Int) (hn:-9223372036854775808≤n∧n≤9223372036854775807) (w:World):
  Calls Tryz.prog 35 #[.agg #[.int .u32 a, .int .i64 n]] w fun e w' =>e= .returned (.bool (iY a n))∧Gr w w' :=by
 have HM:=Lib.hid fun W=>Gv n hn W
 have e1:=Lib.hid (Dy a n ha)
 have d0:=jH w [.int .u32 a, .int .i64 n] 48 0 _ rfl
 have d1:=jH w [.int .u32 a, .int .i64 n] 48 1 _ rfl
 have gw:=(Gr.refl w).alloc (.cells #[.int .u32 a, .int .i64 n] 48)
 clear ha hn
 by_cases h0:0≤n
 ·by_cases h1:n≤32
  ·have e2:=Lib.hid (show iY a n=((a:Int)==(hd a n:Int)) by
    unfold iY
    rcases ki n with ⟨h,_⟩ | ⟨h,_⟩ | ⟨_,_,h⟩
    ·omega
    ·omega
    ·rw [h];simp)
   have h0' :decide ((0:Int)≤n)=true:=by simpa using h0
   have h1' :decide (n≤(32:Int))=true:=by simpa using h1
   go_enter Tryz.func35,Tryz.ntmps35
   go_wp2_with fail
   generalize w.alloc (.cells #[.int .u32 a, .int .i64 n] 48)=W at*
   have hS0:=(Gr.refl (W)).drew
   refine fQ [(0,true),(1,true),(2,true),(3,true),(4,true),(5,true),(6,true),(7,true),(8,true),(9,true),(10,true),(11,true),(12,true),(13,false),(14,true),(15,true),(16,true),(17,true)] (Gr W) (by kernel_rfl) (by kernel_rfl) hS0 ?_
   simp only [fP,List.getElem?_toArray,List.getElem?_cons_zero,List.getElem?_cons_succ]
   repeat (first
    | (refine iN (by rfl) ?_;(try simp only [Act.put,List.setIfInBounds_toArray,List.set_cons_zero,List.set_cons_succ]))
    | (refine iO (by rfl) ?_;apply Exists.intro;refine ⟨fun w' hSw=> ?_, ?_⟩;(focus ((try dsimp only at hSw);go_simp;first | done | with_reducible rfl));(try simp only [Act.put,List.setIfInBounds_toArray,List.set_cons_zero,List.set_cons_succ]))
    | (refine gG (by rfl) (fun K hK=> ?_);go_simp;(first | (go_at_call 54;refine (HM.out _).mono ?_;rintro e w2 ⟨rfl,rfl⟩));refine hK _ _ (by first | exact Gr.trans (by assumption) hb2 | assumption | exact Gr.alloc (by assumption) _) (fun hSn=> ?_);clear hK K;(try simp only [Act.put,List.setIfInBounds_toArray,List.set_cons_zero,List.set_cons_succ]))
    | (refine gG (by rfl) (fun K hK=> ?_);go_simp;refine hK _ _ (by first | exact Gr.trans (by assumption) hb2 | assumption | exact Gr.alloc (by assumption) _) (fun hSn=> ?_);clear hK K;(try simp only [Act.put,List.setIfInBounds_toArray,List.set_cons_zero,List.set_cons_succ])))
   refine ju ?_
   go_wp2
   go_ret
   exact ⟨by rw [e2.out,←e1.out];rfl,gw.drew⟩
  ·have e2:=Lib.hid (show iY a n=false by
    unfold iY
    rcases ki n with ⟨h,_⟩ | ⟨h,h2⟩ | ⟨_,_,h⟩
    ·omega
    ·rw [h2];simp;omega
    ·omega)
   have h0' :decide ((0:Int)≤n)=true:=by simpa using h0
   have h1' :decide (n≤(32:Int))=false:=by simpa using h1
   go_enter Tryz.func35,Tryz.ntmps35
   go_wp2_with fail
   generalize w.alloc (.cells #[.int .u32 a, .int .i64 n] 48)=W at*
   have hS0:=(Gr.refl (W)).drew
   refine fQ [(0,true),(1,true),(2,true),(3,true),(4,true),(5,true),(6,true),(7,true),(8,true),(9,true),(10,true),(11,true),(12,true),(13,false),(14,true),(15,true),(16,true),(17,true)] (Gr W) (by kernel_rfl) (by kernel_rfl) hS0 ?_
   simp only [fP,List.getElem?_toArray,List.getElem?_cons_zero,List.getElem?_cons_succ]
   repeat (first
    | (refine iN (by rfl) ?_;(try simp only [Act.put,List.setIfInBounds_toArray,List.set_cons_zero,List.set_cons_succ]))
    | (refine iO (by rfl) ?_;apply Exists.intro;refine ⟨fun w' hSw=> ?_, ?_⟩;(focus ((try dsimp only at hSw);go_simp;first | done | with_reducible rfl));(try simp only [Act.put,List.setIfInBounds_toArray,List.set_cons_zero,List.set_cons_succ]))
    | (refine gG (by rfl) (fun K hK=> ?_);go_simp;refine hK _ _ (by first | exact Gr.trans (by assumption) hb2 | assumption | exact Gr.alloc (by assumption) _) (fun hSn=> ?_);clear hK K;(try simp only [Act.put,List.setIfInBounds_toArray,List.set_cons_zero,List.set_cons_succ])))
   refine ju ?_
   go_wp2
   go_ret
   exact ⟨by rw [e2.out];rfl,gw.drew⟩
 ·have e2:=Lib.hid (show iY a n=false by
   unfold iY
   rcases ki n with ⟨h,h2⟩ | ⟨h,h2⟩ | ⟨_,_,h⟩
   ·rw [h2];simp;omega
   ·omega
   ·omega)
  have h0' :decide ((0:Int)≤n)=false:=by simpa using h0
  go_enter Tryz.func35,Tryz.ntmps35
  go_wp2_with fail
  generalize w.alloc (.cells #[.int .u32 a, .int .i64 n] 48)=W at*
  have hS0:=(Gr.refl (W)).drew
  refine fQ [(0,true),(1,true),(2,true),(3,true),(4,true),(5,true),(6,true),(7,true),(8,true),(9,true),(10,true),(11,true),(12,true),(13,false),(14,true),(15,true),(16,true),(17,true)] (Gr W) (by kernel_rfl) (by kernel_rfl) hS0 ?_
  simp only [fP,List.getElem?_toArray,List.getElem?_cons_zero,List.getElem?_cons_succ]
  repeat (first
   | (refine iN (by rfl) ?_;(try simp only [Act.put,List.setIfInBounds_toArray,List.set_cons_zero,List.set_cons_succ]))
   | (refine iO (by rfl) ?_;apply Exists.intro;refine ⟨fun w' hSw=> ?_, ?_⟩;(focus ((try dsimp only at hSw);go_simp;first | done | with_reducible rfl));(try simp only [Act.put,List.setIfInBounds_toArray,List.set_cons_zero,List.set_cons_succ]))
   | (refine gG (by rfl) (fun K hK=> ?_);go_simp;refine hK _ _ (by first | exact Gr.trans (by assumption) hb2 | assumption | exact Gr.alloc (by assumption) _) (fun hSn=> ?_);clear hK K;(try simp only [Act.put,List.setIfInBounds_toArray,List.set_cons_zero,List.set_cons_succ])))
  refine ju ?_
  go_wp2
  go_ret
  exact ⟨by rw [e2.out];rfl,gw.drew⟩

end
--PRLaw
section
open Go.RowKit Go.Sort Go.Shelf

instance (x y:Px):Decidable (cU x y):=by unfold cU;infer_instance
end
--Pfx4
section
open Go.RowKit

set_option maxHeartbeats 400000 in
theorem Oj (a n b m:Int) (w:World):
    Calls Tryz.prog 30 #[.agg #[.int .u32 a, .int .i64 n], .agg #[.int .u32 b, .int .i64 m]] w fun e w' =>e= .returned (.int .i64 (ez a n b m))∧Gr w w' :=by
  have gw:=((Gr.refl w).alloc (.cells #[.int .u32 a, .int .i64 n] 48)).alloc (.cells #[.int .u32 b, .int .i64 m] 48)
  by_cases h0:a=b
  · subst h0
    have f0:¬a<a:=by omega
    have f0' :(a==a)=true:=by simp
    by_cases h1:n=m
    · subst h1
      have e1:=Lib.hid (show ez a n a n=0 by simp [ez,jr,gf])
      have f1' :(n==n)=true:=by simp
      go_enter Tryz.func30,Tryz.ntmps30
      go_wp2
      go_ret
      exact ⟨by rw [e1.out];rfl,gw⟩
    · have f1' :(n==m)=false:=by simpa using h1
      rcases Int.lt_trichotomy n m with h2 | h2 | h2
      · have e1:=Lib.hid (show ez a n a m=-1 by simp [ez,jr,gf,h2])
        clear h1
        go_enter Tryz.func30,Tryz.ntmps30
        go_wp2
        go_ret
        exact ⟨by rw [e1.out];rfl,gw⟩
      · exact absurd h2 h1
      · have h3:¬n<m:=by omega
        have e1:=Lib.hid (show ez a n a m=1 by simp [ez,jr,gf,h2,h3])
        clear h1
        go_enter Tryz.func30,Tryz.ntmps30
        go_wp2
        go_ret
        exact ⟨by rw [e1.out];rfl,gw⟩
  · have f0' :(a==b)=false:=by simpa using h0
    rcases Int.lt_trichotomy a b with h2 | h2 | h2
    · have e1:=Lib.hid (show ez a n b m=-1 by simp [ez,jr,gf,h2])
      clear h0
      go_enter Tryz.func30,Tryz.ntmps30
      go_wp2
      go_ret
      exact ⟨by rw [e1.out];rfl,gw⟩
    · exact absurd h2 h0
    · have h3:¬a<b:=by omega
      have e1:=Lib.hid (show ez a n b m=1 by simp [ez,jr,gf,h2,h3])
      clear h0
      go_enter Tryz.func30,Tryz.ntmps30
      go_wp2
      go_ret
      exact ⟨by rw [e1.out];rfl,gw⟩
end
--PRRef
section
open Go.RowKit

theorem Nr (a n b m:Int):VCalls Tryz.prog 30 [.agg (N2 a n), .agg (N2 b m)] ⟨[], []⟩ fun x T' =>x= .val (.int .i64 (ez a n b m))∧T' =⟨[], []⟩:=
 VCalls.of_grT (us:= [.agg #[.int .u32 a, .int .i64 n], .agg #[.int .u32 b, .int .i64 m]]) rfl (fun w=>Oj a n b m w) _
end
--RbL
section
open Go.RowKit
set_option maxRecDepth 100000

def gg (a n:Int):Prop:=(0≤a∧a<4294967296)∧(-9223372036854775808≤n∧n≤9223372036854775807)
theorem Dz (n:Int):oO n=(cl n:Int):=by
 unfold oO cl
 repeat (split<;>try omega)
theorem Ns (n:Nat) (h:n≤32):wV (n:Int)=(kg (n:Int):Int):=by
 have e:cl (n:Int)=n:=by
  unfold cl
  split
  ·omega
  ·split<;>omega
 have h1:(32-(n:Int)).toNat=32-n:=by omega
 have h2:2^(32-n)≤2^32:=Nat.pow_le_pow_right (by decide) (by omega)
 unfold wV kg
 rw [e,h1]
 have h3:((2^32-2^(32-n):Nat):Int)=4294967296-((2^(32-n):Nat):Int):=by omega
 rw [h3]
 simp
theorem H8 (a:Nat) (n:Int) (ha:a<4294967296):bits .and .u32 (a:Int) (kg n:Int)=(hd a n:Int):=by
 rw [u32_and_nat a (kg n) ha (Gb n),JV a n ha]
theorem H9 (a:Nat) (ha:a<4294967296) (n:Int):iY a n=dN (a:Int) n:=by
 have h:=H8 a (cl n:Int) ha
 have hc:=A5 n
 have e1:sA (a:Int) n=(hd a n:Int):=by
  unfold sA CY
  rw [Dz,Ns _ hc]
  have e2:hd a (cl n:Int)=hd a n:=by unfold hd;rw [M3]
  rw [e2] at h
  exact h
 unfold iY dN
 rw [e1,Dz]
 congr 1
end
--RbM
section
open Go.RowKit

abbrev Bk:=35
abbrev kA:=36
abbrev kB:=25
abbrev K2:=18
def Bl:aM:=fun _ ys T K=>match ys with
 | [.agg [.val (.int .u32 a), .val (.int .i64 n)]]=>gg a n∧K (.val (.bool (dN a n))) T
 | _=>ay 84 default ys
def Bm (ok:Bool):aM:=fun _ ys T K=>match ys with
 | [.agg l]=>tN l ok∧K (.val (.bool ok)) T
 | _=>ay 84 default ys
def Bn (ok:Bool):aM:=fun _ ys T K=>match ys with
 | [.agg l, .agg m]=>xk l m ok∧K (.val (.bool ok)) T
 | _=>ay 84 default ys
def tQ:List Nat:= [2,1,6,7,8]
def uY (p:Bs) (j:Int):List TV:= [.val (.bool false), .ptr 0 0, .vec 1 p .none, .val (.int .i64 p.length), .val (.int .i64 j)]
noncomputable def N4 (a:AtV) (ok:Bool) (c0:Code):Nat→Option (br × Code):=bv [(0,bN 56 tQ [] (uY (iV a.p) 0) ⟨[.cells a.cells], []⟩ (fun K=>∀z:Int,bif ok then K .normal (aj 56 tQ (uY (iV a.p) (iV a.p).length)) ⟨[.cells a.cells], []⟩ [] else K .ret (aj 56 tQ (uY (iV a.p) z)) ⟨[.cells a.cells], []⟩ []),c0)]
def tR:List Nat:= [4,2,3,43,44]
def uZ (p:Bs) (j:Int):List TV:= [.val (.bool false), .ptr 0 0, .ptr 1 0, .val (.int .i64 p.length), .val (.int .i64 j)]
noncomputable def N5 (a b:AtV) (ok:Bool) (c0:Code):Nat→Option (br × Code):=bv [(0,bN 59 tR [] (uZ (iV a.p) 0) ⟨[.cells a.cells, .cells b.cells], []⟩ (fun K=>(@Eq Nat (iV a.p).length (iV b.p).length)∧∀z:Int,bif ok then K .normal (aj 59 tR (uZ (iV a.p) (iV a.p).length)) ⟨[.cells a.cells, .cells b.cells], []⟩ [] else K .ret (aj 59 tR (uZ (iV a.p) z)) ⟨[.cells a.cells, .cells b.cells], []⟩ []),c0)]
theorem Nt (a:AtV) (ok:Bool) (Q:TV→VT→Prop):aq Tryz.prog ae aR (aA [(999998, .dead,none)]) 300 (N4 a ok (am Tryz.prog kA 0)) 0 kA [.agg a.cells] ⟨[], []⟩ Q=
 ((am Tryz.prog kA (0:Nat)=am Tryz.prog kA (0:Nat))∧
 (((@Eq (Option Nat) .none .none)∧
 ((@Eq (Nat) 0 0)∧
 ((@Eq (List Nat) [] [])∧
 (True  ∧
 ((@Eq (VT) ⟨[(.cells [(.val (.int .i64 (AtV.o a))),(.vec 1 (iV (AtV.p a)) .none),(.val (.int .u32 (AtV.h a))),(.val (.int .i64 (AtV.m a))),(.val (.bool (AtV.hm a)))])], []⟩ ⟨[(.cells [(.val (.int .i64 (AtV.o a))),(.vec 1 (iV (AtV.p a)) .none),(.val (.int .u32 (AtV.h a))),(.val (.int .i64 (AtV.m a))),(.val (.bool (AtV.hm a)))])], []⟩)∧
 ((@Eq (Bool) true true)∧
 (@Eq (List TV) [(.val (.bool false)),(.ptr 0 0),(.vec 1 (iV (AtV.p a)) .none),(.val (.int .i64 ((↑(List.length (iV (AtV.p a))):Int)))),(.val (.int .i64 0))] [(.val (.bool false)),(.ptr 0 0),(.vec 1 (iV (AtV.p a)) .none),(.val (.int .i64 ((↑(List.length (iV (AtV.p a))):Int)))),(.val (.int .i64 0))])))))))∧
 (∀z:Int,(bif ok
 then (bif decide (AtV.o a<(0:Int))
 then Q (.val (.bool false)) ⟨[(.cells [(.val (.int .i64 (AtV.o a))),(.vec 1 (iV (AtV.p a)) .none),(.val (.int .u32 (AtV.h a))),(.val (.int .i64 (AtV.m a))),(.val (.bool (AtV.hm a)))])], []⟩
 else (bif decide (AtV.o a>(2:Int))
 then Q (.val (.bool false)) ⟨[(.cells [(.val (.int .i64 (AtV.o a))),(.vec 1 (iV (AtV.p a)) .none),(.val (.int .u32 (AtV.h a))),(.val (.int .i64 (AtV.m a))),(.val (.bool (AtV.hm a)))])], []⟩
 else (bif decide ((↑(List.length (iV (AtV.p a))):Int)>(16:Int))
 then Q (.val (.bool false)) ⟨[(.cells [(.val (.int .i64 (AtV.o a))),(.vec 1 (iV (AtV.p a)) .none),(.val (.int .u32 (AtV.h a))),(.val (.int .i64 (AtV.m a))),(.val (.bool (AtV.hm a)))])], []⟩
 else (bif aG BinOp.neq (ar (Value.int IntKind.u32 (AtV.h a)) (Value.int IntKind.u32 (0:Int)))
 then (bif aG BinOp.neq (ar (Value.int IntKind.u32 (AtV.h a)) (Value.int IntKind.u32 (4294967295:Int)))
 then (bif aG BinOp.neq (ar (Value.int IntKind.u32 (Int.fdiv (AtV.h a) ((2:Int)^min (Int.toNat (24:Int)) (IntKind.bits IntKind.u32)))) (Value.int IntKind.u32 (127:Int)))
 then (bif !aG BinOp.neq (ar (Value.int IntKind.u32 (Int.fdiv (AtV.h a) ((2:Int)^min (Int.toNat (29:Int)) (IntKind.bits IntKind.u32)))) (Value.int IntKind.u32 (7:Int)))
 then Q (.val (.bool false)) ⟨[(.cells [(.val (.int .i64 (AtV.o a))),(.vec 1 (iV (AtV.p a)) .none),(.val (.int .u32 (AtV.h a))),(.val (.int .i64 (AtV.m a))),(.val (.bool (AtV.hm a)))])], []⟩
 else (bif decide (AtV.m a<(0:Int))
 then Q (.val (.bool false)) ⟨[(.cells [(.val (.int .i64 (AtV.o a))),(.vec 1 (iV (AtV.p a)) .none),(.val (.int .u32 (AtV.h a))),(.val (.int .i64 (AtV.m a))),(.val (.bool (AtV.hm a)))])], []⟩
 else (bif decide (AtV.m a>(4294967295:Int))
 then Q (.val (.bool false)) ⟨[(.cells [(.val (.int .i64 (AtV.o a))),(.vec 1 (iV (AtV.p a)) .none),(.val (.int .u32 (AtV.h a))),(.val (.int .i64 (AtV.m a))),(.val (.bool (AtV.hm a)))])], []⟩
 else (bif AtV.hm a
 then Q (.val (.bool true)) ⟨[(.cells [(.val (.int .i64 (AtV.o a))),(.vec 1 (iV (AtV.p a)) .none),(.val (.int .u32 (AtV.h a))),(.val (.int .i64 (AtV.m a))),(.val (.bool (AtV.hm a)))])], []⟩
 else Q (.val (.bool (aG BinOp.eql (ar (Value.int IntKind.i64 (AtV.m a)) (Value.int IntKind.i64 (0:Int)))))) ⟨[(.cells [(.val (.int .i64 (AtV.o a))),(.vec 1 (iV (AtV.p a)) .none),(.val (.int .u32 (AtV.h a))),(.val (.int .i64 (AtV.m a))),(.val (.bool (AtV.hm a)))])], []⟩))))
 else Q (.val (.bool false)) ⟨[(.cells [(.val (.int .i64 (AtV.o a))),(.vec 1 (iV (AtV.p a)) .none),(.val (.int .u32 (AtV.h a))),(.val (.int .i64 (AtV.m a))),(.val (.bool (AtV.hm a)))])], []⟩)
 else Q (.val (.bool false)) ⟨[(.cells [(.val (.int .i64 (AtV.o a))),(.vec 1 (iV (AtV.p a)) .none),(.val (.int .u32 (AtV.h a))),(.val (.int .i64 (AtV.m a))),(.val (.bool (AtV.hm a)))])], []⟩)
 else Q (.val (.bool false)) ⟨[(.cells [(.val (.int .i64 (AtV.o a))),(.vec 1 (iV (AtV.p a)) .none),(.val (.int .u32 (AtV.h a))),(.val (.int .i64 (AtV.m a))),(.val (.bool (AtV.hm a)))])], []⟩))))
 else Q (.val (.bool false)) ⟨[(.cells [(.val (.int .i64 (AtV.o a))),(.vec 1 (iV (AtV.p a)) .none),(.val (.int .u32 (AtV.h a))),(.val (.int .i64 (AtV.m a))),(.val (.bool (AtV.hm a)))])], []⟩)))):=by kernel_rfl
theorem DA (a:AtV) (z:Int) (j:Nat) (Q:Exit→List TV→VT→List Nat→Nat→Prop):vx Tryz.prog ae aR (aA [(999998, .dead,none),(10, .elt [.val (.int .i64 z)],none)]) 300 aD none 0 (bd Tryz.prog kA 0) (aj 56 tQ (uY (iV a.p) j)) ⟨[.cells a.cells], []⟩ [] (bA tQ Q)=
 (bif decide ((↑j:Int)<(↑(List.length (iV (AtV.p a))):Int))
 then (ax Tryz.prog (fun _=> .none) (.indexAddr 33 (.tmp 6) (.tmp 8)) [(6,(.vec 1 (iV (AtV.p a)) .none)),(8,(.val (.int .i64 ((↑j:Int)))))] (.elt [(.val (.int .i64 (z)))])∧
 (bif decide (z<(1:Int))
 then Q .ret [(.val (.bool false)),(.ptr 0 0),(.vec 1 (iV (AtV.p a)) .none),(.val (.int .i64 ((↑(List.length (iV (AtV.p a))):Int)))),(.val (.int .i64 ((↑j:Int))))] ⟨[(.cells [(.val (.int .i64 (AtV.o a))),(.vec 1 (iV (AtV.p a)) .none),(.val (.int .u32 (AtV.h a))),(.val (.int .i64 (AtV.m a))),(.val (.bool (AtV.hm a)))])], []⟩ [] 56
 else (bif decide (z>(65535:Int))
 then Q .ret [(.val (.bool false)),(.ptr 0 0),(.vec 1 (iV (AtV.p a)) .none),(.val (.int .i64 ((↑(List.length (iV (AtV.p a))):Int)))),(.val (.int .i64 ((↑j:Int))))] ⟨[(.cells [(.val (.int .i64 (AtV.o a))),(.vec 1 (iV (AtV.p a)) .none),(.val (.int .u32 (AtV.h a))),(.val (.int .i64 (AtV.m a))),(.val (.bool (AtV.hm a)))])], []⟩ [] 56
 else Q .normal [(.val (.bool false)),(.ptr 0 0),(.vec 1 (iV (AtV.p a)) .none),(.val (.int .i64 ((↑(List.length (iV (AtV.p a))):Int)))),(.val (.int .i64 (IntKind.wrap IntKind.i64 ((↑j:Int)+(1:Int)))))] ⟨[(.cells [(.val (.int .i64 (AtV.o a))),(.vec 1 (iV (AtV.p a)) .none),(.val (.int .u32 (AtV.h a))),(.val (.int .i64 (AtV.m a))),(.val (.bool (AtV.hm a)))])], []⟩ [] 56)))
 else Q (.exit 0) [(.val (.bool false)),(.ptr 0 0),(.vec 1 (iV (AtV.p a)) .none),(.val (.int .i64 ((↑(List.length (iV (AtV.p a))):Int)))),(.val (.int .i64 ((↑j:Int))))] ⟨[(.cells [(.val (.int .i64 (AtV.o a))),(.vec 1 (iV (AtV.p a)) .none),(.val (.int .u32 (AtV.h a))),(.val (.int .i64 (AtV.m a))),(.val (.bool (AtV.hm a)))])], []⟩ [] 56):=by kernel_rfl
theorem Nu (a b:AtV) (ok:Bool) (Q:TV→VT→Prop):aq Tryz.prog ae aR (aA [(999998, .dead,none)]) 300 (N5 a b ok (am Tryz.prog kB 0)) 0 kB [.agg a.cells, .agg b.cells] ⟨[], []⟩ Q=
 (bif aG BinOp.neq (ar (Value.int IntKind.i64 (AtV.o a)) (Value.int IntKind.i64 (AtV.o b)))
 then Q (.val (.bool false)) ⟨[(.cells [(.val (.int .i64 (AtV.o a))),(.vec 1 (iV (AtV.p a)) .none),(.val (.int .u32 (AtV.h a))),(.val (.int .i64 (AtV.m a))),(.val (.bool (AtV.hm a)))]),(.cells [(.val (.int .i64 (AtV.o b))),(.vec 1 (iV (AtV.p b)) .none),(.val (.int .u32 (AtV.h b))),(.val (.int .i64 (AtV.m b))),(.val (.bool (AtV.hm b)))])], []⟩
 else (bif aG BinOp.neq (ar (Value.int IntKind.u32 (AtV.h a)) (Value.int IntKind.u32 (AtV.h b)))
 then Q (.val (.bool false)) ⟨[(.cells [(.val (.int .i64 (AtV.o a))),(.vec 1 (iV (AtV.p a)) .none),(.val (.int .u32 (AtV.h a))),(.val (.int .i64 (AtV.m a))),(.val (.bool (AtV.hm a)))]),(.cells [(.val (.int .i64 (AtV.o b))),(.vec 1 (iV (AtV.p b)) .none),(.val (.int .u32 (AtV.h b))),(.val (.int .i64 (AtV.m b))),(.val (.bool (AtV.hm b)))])], []⟩
 else (bif aG BinOp.neq (ar (Value.int IntKind.i64 (AtV.m a)) (Value.int IntKind.i64 (AtV.m b)))
 then Q (.val (.bool false)) ⟨[(.cells [(.val (.int .i64 (AtV.o a))),(.vec 1 (iV (AtV.p a)) .none),(.val (.int .u32 (AtV.h a))),(.val (.int .i64 (AtV.m a))),(.val (.bool (AtV.hm a)))]),(.cells [(.val (.int .i64 (AtV.o b))),(.vec 1 (iV (AtV.p b)) .none),(.val (.int .u32 (AtV.h b))),(.val (.int .i64 (AtV.m b))),(.val (.bool (AtV.hm b)))])], []⟩
 else (bif aG BinOp.neq (ar (Value.bool (AtV.hm a)) (Value.bool (AtV.hm b)))
 then Q (.val (.bool false)) ⟨[(.cells [(.val (.int .i64 (AtV.o a))),(.vec 1 (iV (AtV.p a)) .none),(.val (.int .u32 (AtV.h a))),(.val (.int .i64 (AtV.m a))),(.val (.bool (AtV.hm a)))]),(.cells [(.val (.int .i64 (AtV.o b))),(.vec 1 (iV (AtV.p b)) .none),(.val (.int .u32 (AtV.h b))),(.val (.int .i64 (AtV.m b))),(.val (.bool (AtV.hm b)))])], []⟩
 else (bif aG BinOp.neq (ar (Value.int IntKind.i64 (↑(List.length (iV (AtV.p a))):Int)) (Value.int IntKind.i64 (↑(List.length (iV (AtV.p b))):Int)))
 then Q (.val (.bool false)) ⟨[(.cells [(.val (.int .i64 (AtV.o a))),(.vec 1 (iV (AtV.p a)) .none),(.val (.int .u32 (AtV.h a))),(.val (.int .i64 (AtV.m a))),(.val (.bool (AtV.hm a)))]),(.cells [(.val (.int .i64 (AtV.o b))),(.vec 1 (iV (AtV.p b)) .none),(.val (.int .u32 (AtV.h b))),(.val (.int .i64 (AtV.m b))),(.val (.bool (AtV.hm b)))])], []⟩
 else ((am Tryz.prog kB (0:Nat)=am Tryz.prog kB (0:Nat))∧
 (((@Eq (Option Nat) .none .none)∧
 ((@Eq (Nat) 0 0)∧
 ((@Eq (List Nat) [] [])∧
 (True  ∧
 ((@Eq (VT) ⟨[(.cells [(.val (.int .i64 (AtV.o a))),(.vec 1 (iV (AtV.p a)) .none),(.val (.int .u32 (AtV.h a))),(.val (.int .i64 (AtV.m a))),(.val (.bool (AtV.hm a)))]),(.cells [(.val (.int .i64 (AtV.o b))),(.vec 1 (iV (AtV.p b)) .none),(.val (.int .u32 (AtV.h b))),(.val (.int .i64 (AtV.m b))),(.val (.bool (AtV.hm b)))])], []⟩ ⟨[(.cells [(.val (.int .i64 (AtV.o a))),(.vec 1 (iV (AtV.p a)) .none),(.val (.int .u32 (AtV.h a))),(.val (.int .i64 (AtV.m a))),(.val (.bool (AtV.hm a)))]),(.cells [(.val (.int .i64 (AtV.o b))),(.vec 1 (iV (AtV.p b)) .none),(.val (.int .u32 (AtV.h b))),(.val (.int .i64 (AtV.m b))),(.val (.bool (AtV.hm b)))])], []⟩)∧
 ((@Eq (Bool) true true)∧
 (@Eq (List TV) [(.val (.bool false)),(.ptr 0 0),(.ptr 1 0),(.val (.int .i64 ((↑(List.length (iV (AtV.p a))):Int)))),(.val (.int .i64 0))] [(.val (.bool false)),(.ptr 0 0),(.ptr 1 0),(.val (.int .i64 ((↑(List.length (iV (AtV.p a))):Int)))),(.val (.int .i64 0))])))))))∧
 ((@Eq (Nat) (List.length (iV (AtV.p a))) (List.length (iV (AtV.p b))))∧
 (∀z:Int,(bif ok
 then Q (.val (.bool true)) ⟨[(.cells [(.val (.int .i64 (AtV.o a))),(.vec 1 (iV (AtV.p a)) .none),(.val (.int .u32 (AtV.h a))),(.val (.int .i64 (AtV.m a))),(.val (.bool (AtV.hm a)))]),(.cells [(.val (.int .i64 (AtV.o b))),(.vec 1 (iV (AtV.p b)) .none),(.val (.int .u32 (AtV.h b))),(.val (.int .i64 (AtV.m b))),(.val (.bool (AtV.hm b)))])], []⟩
 else Q (.val (.bool false)) ⟨[(.cells [(.val (.int .i64 (AtV.o a))),(.vec 1 (iV (AtV.p a)) .none),(.val (.int .u32 (AtV.h a))),(.val (.int .i64 (AtV.m a))),(.val (.bool (AtV.hm a)))]),(.cells [(.val (.int .i64 (AtV.o b))),(.vec 1 (iV (AtV.p b)) .none),(.val (.int .u32 (AtV.h b))),(.val (.int .i64 (AtV.m b))),(.val (.bool (AtV.hm b)))])], []⟩)))))))))):=by kernel_rfl
theorem DB (a b:AtV) (z y:Int) (j:Nat) (Q:Exit→List TV→VT→List Nat→Nat→Prop):vx Tryz.prog ae aR (aA [(999998, .dead,none),(50, .elt [.val (.int .i64 z)],none),(55, .elt [.val (.int .i64 y)],none)]) 300 aD none 0 (bd Tryz.prog kB 0) (aj 59 tR (uZ (iV a.p) j)) ⟨[.cells a.cells, .cells b.cells], []⟩ [] (bA tR Q)=
 (bif decide ((↑j:Int)<(↑(List.length (iV (AtV.p a))):Int))
 then (ax Tryz.prog (fun _=> .none) (.indexAddr 33 (.tmp 48) (.tmp 49)) [(48,(.vec 1 (iV (AtV.p a)) .none)),(49,(.val (.int .i64 ((↑j:Int)))))] (.elt [(.val (.int .i64 (z)))])∧
 (ax Tryz.prog (fun _=> .none) (.indexAddr 33 (.tmp 53) (.tmp 54)) [(53,(.vec 1 (iV (AtV.p b)) .none)),(54,(.val (.int .i64 ((↑j:Int)))))] (.elt [(.val (.int .i64 (y)))])∧
 (bif aG BinOp.neq (ar (Value.int IntKind.i64 z) (Value.int IntKind.i64 y))
 then Q .ret [(.val (.bool false)),(.ptr 0 0),(.ptr 1 0),(.val (.int .i64 ((↑(List.length (iV (AtV.p a))):Int)))),(.val (.int .i64 ((↑j:Int))))] ⟨[(.cells [(.val (.int .i64 (AtV.o a))),(.vec 1 (iV (AtV.p a)) .none),(.val (.int .u32 (AtV.h a))),(.val (.int .i64 (AtV.m a))),(.val (.bool (AtV.hm a)))]),(.cells [(.val (.int .i64 (AtV.o b))),(.vec 1 (iV (AtV.p b)) .none),(.val (.int .u32 (AtV.h b))),(.val (.int .i64 (AtV.m b))),(.val (.bool (AtV.hm b)))])], []⟩ [] 59
 else Q .normal [(.val (.bool false)),(.ptr 0 0),(.ptr 1 0),(.val (.int .i64 ((↑(List.length (iV (AtV.p a))):Int)))),(.val (.int .i64 (IntKind.wrap IntKind.i64 ((↑j:Int)+(1:Int)))))] ⟨[(.cells [(.val (.int .i64 (AtV.o a))),(.vec 1 (iV (AtV.p a)) .none),(.val (.int .u32 (AtV.h a))),(.val (.int .i64 (AtV.m a))),(.val (.bool (AtV.hm a)))]),(.cells [(.val (.int .i64 (AtV.o b))),(.vec 1 (iV (AtV.p b)) .none),(.val (.int .u32 (AtV.h b))),(.val (.int .i64 (AtV.m b))),(.val (.bool (AtV.hm b)))])], []⟩ [] 59)))
 else Q (.exit 0) [(.val (.bool false)),(.ptr 0 0),(.ptr 1 0),(.val (.int .i64 ((↑(List.length (iV (AtV.p a))):Int)))),(.val (.int .i64 ((↑j:Int))))] ⟨[(.cells [(.val (.int .i64 (AtV.o a))),(.vec 1 (iV (AtV.p a)) .none),(.val (.int .u32 (AtV.h a))),(.val (.int .i64 (AtV.m a))),(.val (.bool (AtV.hm a)))]),(.cells [(.val (.int .i64 (AtV.o b))),(.vec 1 (iV (AtV.p b)) .none),(.val (.int .u32 (AtV.h b))),(.val (.int .i64 (AtV.m b))),(.val (.bool (AtV.hm b)))])], []⟩ [] 59):=by kernel_rfl
theorem Nv (a n:Int) (x:AtV) (g ok ok2:Bool) (Q:TV→VT→Prop):aq Tryz.prog ae (aw [(Bk,Bl),(kA,Bm ok),(kB,Bn ok2)]) (aA [(999998, .dead,none)]) 300 aD 0 K2 [.agg (az a n x g)] ⟨[], []⟩ Q=
 (bif g
 then (gg (a) (n)∧
 (bif dN a n
 then (xk [(.val (.int .i64 (AtV.o x))),(.vec 1 (iV (AtV.p x)) .none),(.val (.int .u32 (AtV.h x))),(.val (.int .i64 (AtV.m x))),(.val (.bool (AtV.hm x)))] [(.val (.int .i64 0)),(.val (.slice .none 0 0)),(.val (.int .u32 0)),(.val (.int .i64 0)),(.val (.bool false))] (ok2)∧
 Q (.val (.bool (ok2))) ⟨[(.cells [(.val (.int .u32 (a))),(.val (.int .i64 (n))),(.val (.int .i64 (AtV.o x))),(.vec 1 (iV (AtV.p x)) .none),(.val (.int .u32 (AtV.h x))),(.val (.int .i64 (AtV.m x))),(.val (.bool (AtV.hm x))),(.val (.bool (g)))])], []⟩)
 else Q (.val (.bool false)) ⟨[(.cells [(.val (.int .u32 (a))),(.val (.int .i64 (n))),(.val (.int .i64 (AtV.o x))),(.vec 1 (iV (AtV.p x)) .none),(.val (.int .u32 (AtV.h x))),(.val (.int .i64 (AtV.m x))),(.val (.bool (AtV.hm x))),(.val (.bool (g)))])], []⟩))
 else (gg (a) (n)∧
 (bif dN a n
 then (tN [(.val (.int .i64 (AtV.o x))),(.vec 1 (iV (AtV.p x)) .none),(.val (.int .u32 (AtV.h x))),(.val (.int .i64 (AtV.m x))),(.val (.bool (AtV.hm x)))] (ok)∧
 Q (.val (.bool (ok))) ⟨[(.cells [(.val (.int .u32 (a))),(.val (.int .i64 (n))),(.val (.int .i64 (AtV.o x))),(.vec 1 (iV (AtV.p x)) .none),(.val (.int .u32 (AtV.h x))),(.val (.int .i64 (AtV.m x))),(.val (.bool (AtV.hm x))),(.val (.bool (g)))])], []⟩)
 else Q (.val (.bool false)) ⟨[(.cells [(.val (.int .u32 (a))),(.val (.int .i64 (n))),(.val (.int .i64 (AtV.o x))),(.vec 1 (iV (AtV.p x)) .none),(.val (.int .u32 (AtV.h x))),(.val (.int .i64 (AtV.m x))),(.val (.bool (AtV.hm x))),(.val (.bool (g)))])], []⟩))):=by kernel_rfl
end

end Go.Proofs.YtnfplefcghadfaaGreat