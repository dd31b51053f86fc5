/-Part 5 of the proof of packWhole_holds:Po1,RbLays,Po2 ... No condition. -/
import Derived.Shelf.SlSortCmp.NoneTotal
import Derived.Ground.SlsfProg
import Derived.Test.YtnfplefcghadfaaProg
import Derived.Laws.BitsAllLaws
import Derived.Test.YtnfplefcghadfaaPw1
import Derived.Test.YtnfplefcghadfaaPw2
import Derived.Test.YtnfplefcghadfaaPw3
import Derived.Test.YtnfplefcghadfaaPw4
set_option maxRecDepth 100000
--Wire
namespace Go.Proofs.Ytnfplefcghadfaa
section
open Go.RowKit

theorem De:(Try.prog.info? 5).map (fun i=>(i.zero,i.size,i.bytes))=some (some (.int .u8 0),1,1):=by kernel_rfl

def c5 (n size:Nat):List Nat:=(List.range size).map fun k=>n/2^(8*(size-1-k))%256

theorem yW (n size k:Nat) (h:k<size):(c5 n size).take (k+1)=(c5 n size).take k++ [n/2^(8*(size-1-k))%256]:=by
 rw [List.take_succ_eq_append_getElem (by simpa [c5] using h)]
 simp [c5]
theorem Bd (n size:Nat):(c5 n size).take size=c5 n size:=List.take_of_length_le (by simp [c5])

set_option maxHeartbeats 400000 in
theorem xq (b:Value) (nb:Nat) (bs:List Value) (h1:∀u∈bs,u.oneCell' =true) (n:Nat) (size:Nat) (hs:size≤8) (hnb:nb≤1099511627776) (w:World) (hb:Rd w 1 b nb bs):
  Calls Try.prog 138 #[b, .int .u64 n, .int .i64 size] w (Rets w fun v w' =>w'.ownsRow w.heap.size 5 1 v (nb+size) (bs++fH (c5 n size))):=by
 obtain ⟨i0,hi,hz0,hz1,hz2⟩:=info_parts De
 have hb' :=hb
 obtain ⟨_,p,c,rfl,_,_,_,_⟩:=hb'
 have HB:=Lib.hid hb
 have H1:=Lib.hid h1
 clear hb h1
 rename_i z1 z2 z3 z4 z5
 clear z1 z3 z4 z5
 have hi' :=Lib.hid hi
 clear hi
 go_enter Try.func138,Try.ntmps138
 go_wp2_with (first | (at_make;refine Ax 5 w.heap.size i0 (.int .u8 0) 1 1 Try.underlying108 hi'.out hz0 hz1 hz2 nb (nb+size) .i64 .i64 _ _ (by rfl) (by rfl) rfl (by omega) (by omega) (by omega) (by unfold maxLen;omega) (Nat.le_refl _) (fun v1 w1 own1 g1 hv1=> ?_)) | (refine Ay w.heap.size 5 Try.underlying108 (by kernel_rfl) _ nb _ (by rfl) (by assumption) _ nb bs (by rfl) (HB.out.gr (by assumption)) H1.out (fun w2 own2 gb2=> ?_)))
 have gr2:=si g1 (Nat.le_refl _) own1 gb2
 have own3:w2.ownsRow w.heap.size 5 1 v1 nb bs:=by
  have hl:=HB.out.len
  have e:List.take nb bs++List.drop nb (List.take (nb*1) (madeCells (Value.int IntKind.u8 0).cells ((nb+size)*1)).toList)=bs:=by
   rw [List.take_of_length_le (by omega),List.drop_eq_nil_of_le (by rw [List.length_take];omega),List.append_nil]
  rwa [e] at own2
 clear own2 gb2 own1 g1 hv1
 go_loopw [7,8] (fun v i wr=>∃j k:Nat,j+k=size∧i= .int .i64 ((j:Int)-1)∧wr.ownsRow w.heap.size 5 1 v (nb+k) (bs++fH ((c5 n size).take k))∧Gr w wr) (fun _ i _=>(intOf i+1).toNat)
 case atStart=>exact ⟨size,0,rfl,rfl,by simpa [fH] using own3,gr2⟩
 case round=>
  obtain ⟨j,k,hk,rfl,hown,hgr⟩:=hrel
  have HO:=Lib.hid hown
  have HK:=Lib.hid hk
  have hks:k≤size:=by omega
  clear hown own3 hk
  cases j with
  | zero=>
   have e:k=size:=by have:=HK.out;omega
   subst e
   go_wp2
   go_ret
   refine Rets.mk hgr ?_
   have:=HO.out
   rwa [Bd] at this
  | succ j=>
   have hj8:j<8:=by have:=HK.out;omega
   rw [show (((j+1:Nat):Int)-1)=(j:Int) by omega]
   go_wp2_with (at_builtin;go_loud (refine CW w.heap.size 5 i0 (.int .u8 0) 1 1 Try.underlying108 hi'.out hz0 hz1 hz2 rfl (by decide) _ (nb+k) _ (by rfl) (World.ownsRow.alloc HO.out _) _ 1 [_] (by rfl) (Rd.new _ [_] _ 1 1 rfl (by decide)) (by intro u hu;simp at hu;subst hu;rfl) (by unfold maxLen;omega) (by omega) (by have:=Gr.size hgr;simp;omega) (fun v1 w1 own1 gb1=> ?_)))
   go_roundw
   case rel=>
    refine ⟨j,k+1,by have:=HK.out;omega,rfl, ?_,si (hgr.alloc _) (Nat.le_refl _) (HO.out.alloc _) gb1⟩
    have hk1:k<size:=by have:=HK.out;omega
    rw [yW n size k hk1,Aw,←List.append_assoc]
    have e:size-1-k=j:=by have:=HK.out;omega
    rw [e]
    exact own1
   case measure=>simp [intOf]

end
--MsA
section
open Go.RowKit

theorem rq (q:IntKind) (x y:Int):aT BinOp.eql (an (.int q x) (.int q y))=decide (x=y):=by
 simp [aT,an,ce,Bool.beq_eq_decide_eq]
theorem yX (q:IntKind) (x y:Int):aT BinOp.neq (an (.int q x) (.int q y))= !decide (x=y):=by
 simp [aT,an,ce,Bool.beq_eq_decide_eq]
theorem jb:∃inf:TypeInfo,Try.prog.info? 5=some inf∧inf.size=1∧inf.bytes+1=2∧inf.zero=some (.int .u8 0):=
 ⟨(Try.prog.info? 5).getD default,by kernel_rfl,by kernel_rfl,by kernel_rfl,by kernel_rfl⟩
section
variable {x i m:Operand} {l:List (Nat × TV)} {b:Bs} {tok:Tok} {k k' :IntKind} {z z' :Int} {e:List TV} {n n' :Nat}
theorem mJ (hx:aR ae l x= .vec 1 b tok) (hz:aR ae l i= .val (.int k z)) (h0:0≤z) (hn:z.toNat=n) (he:n≤b.length):aW Try.prog ae (.slice 108 x none (some i) none) l (.vec 1 (b.take n) .none):=by
 subst hn
 obtain ⟨inf,i1,i2,_,_⟩:=jb
 have h:=tu (inf:=inf) (P:=Try.prog) (G:=ae) (x:=x) (i:=i) (l:=l) (es:=b) (tok:=tok) Try.underlying108 i1 (by rw [i2];exact hx) hz h0 he
 rw [i2] at h
 exact h
theorem nq {ro:Nat} {T T1:VT} {s:Operand} {es es2:Bs} {bn:Bool} {k n:Nat} (hs:fm T 1 (aR ae l s)=some (es,k,n,bn,T1)) (hx:gR 1 (aR ae l x)=some es2) (hb:es.length+es2.length≤70368744177664):
    aZ Try.prog ae ro T (.call ⟨.builtin .append, #[s,x], #[108,108]⟩) l (.vec 1 (es++es2) (.tail k (n+es2.length))) {T1 with tails:=T1.tails.set k (n+es2.length,1,bn)}:=by
  obtain ⟨inf,i1,i2,i3,i4⟩:=jb
  have h:=mG (inf:=inf) (P:=Try.prog) (G:=ae) (ro:=ro) (T:=T) (T1:=T1) (t:=108) (tx:=108) (s:=s) (x:=x) (l:=l) (es:=es) (es2:=es2) (k:=k) (n:=n) (bn:=bn) Try.underlying108 i1 i4 (by rw [i2];rfl) (by rw [i2];decide) (by kernel_rfl) (by rw [i2];exact hs) (by rw [i2];exact hx)
    (by rw [i3];omega)
  rw [i2] at h
  exact h
end
end
--MsB
section
open Go.RowKit

theorem fg {z:Int} (h0:-1000000000000000≤z) (h1:z≤1000000000000000):IntKind.i64.wrap z=z:=by
 simp only [IntKind.wrap,IntKind.bits,IntKind.signed];simp;omega
end
--MbA
section
open Go.RowKit

abbrev dK:=138
def yY (k n:Nat):List Int:=(c5 n k).map fun z:Nat=>(z:Int)
def nP (k n:Nat):Bs:=bV (yY k n)
theorem vB (k n:Nat):(nP k n).length=k:=by simp [nP,bV,yY,c5]
theorem EG (k n:Nat):∀z∈yY k n,0≤z∧z<256:=by
 intro z hz
 obtain ⟨m,hm,rfl⟩:=List.mem_map.1 hz
 obtain ⟨i,_,rfl⟩:=List.mem_map.1 hm
 have:n/2^(8*(k-1-i))%256<256:=Nat.mod_lt _ (by decide)
 omega
theorem tz {k n:Nat} (hk:k≤8):IsB (nP k n):=⟨⟨_,rfl,EG k n⟩,by rw [vB];omega⟩
theorem pF (k n:Nat):fH (c5 n k)=dZ (yY k n):=by simp [fH,dZ,yY,Function.comp_def]
theorem Df {b:Bs} (hb:IsB b) (hne:b≠ []) (tok:Tok) {n k:Nat} (hk:k≤8):VCx Try.prog ae 0 dK [.vec 1 b tok, .val (.int .u64 n), .val (.int .i64 k)] ⟨[], []⟩ fun x T' =>x= .vec 1 (b++nP k n) .none∧T' =⟨[], []⟩:=by
  obtain ⟨⟨l,rfl,hl⟩,hlen⟩:=hb
  have hne2:l≠ []:=fun h=>hne (by rw [h];rfl)
  have hll:(bV l).length=l.length:=by simp [bV]
  rw [hll] at hlen
  have hvs:(dZ l++fH (c5 n k)).length=l.length+k:=by simp [dZ,fH,c5]
  have h:=VCx.ofOwn (P:=Try.prog) (G:=ae) (f:=dK) (xs:= [.vec 1 (bV l) tok, .val (.int .u64 n), .val (.int .i64 k)]) (ty:=5) (vs:=dZ l++fH (c5 n k)) (fun v hv=> ?_) (by rw [hvs];unfold maxLen;omega) (fun g w us hx=> ?_)
  · refine h.mono ?_
    rintro x T' ⟨rfl,rfl⟩
    refine ⟨?_,rfl⟩
    rw [List.map_append,←gK,pF,←gK];rfl
  · rcases List.mem_append.1 hv with hv | hv
    · obtain ⟨z,_,rfl⟩:=List.mem_map.1 hv;rfl
    · obtain ⟨z,_,rfl⟩:=List.mem_map.1 hv;rfl
  · match us,hx.1 with
    | [v,u1,u2],_=>
      have hv:=hx.2 0 _ v rfl rfl
      obtain rfl:=(hx.2 1 _ u1 rfl rfl).val_inv
      obtain rfl:=(hx.2 2 _ u2 rfl rfl).val_inv
      have:=xq v l.length (dZ l) (fun u hu=>by obtain ⟨z,_,rfl⟩:=List.mem_map.1 hu;rfl) n k hk (by omega) w (yU hv hne2)
      rw [hvs];exact this
theorem Be {n k:Nat} (hk:k≤8):VCx Try.prog ae 0 dK [.val (.slice none 0 0), .val (.int .u64 n), .val (.int .i64 k)] ⟨[], []⟩ fun x T' =>x= .vec 1 (nP k n) .none∧T' =⟨[], []⟩:=by
 have hvs:(fH (c5 n k)).length=k:=by simp [fH,c5]
 have h:=VCx.ofRetsT (P:=Try.prog) (G:=ae) (f:=dK) (xs:= [.val (.slice none 0 0), .val (.int .u64 n), .val (.int .i64 k)]) (us:= [.slice none 0 0, .int .u64 n, .int .i64 k]) rfl (ty:=5) (vs:=fH (c5 n k)) (fun v hv=>by obtain ⟨z,_,rfl⟩:=List.mem_map.1 hv;rfl) (by rw [hvs];unfold maxLen;omega) (fun w=>by
  have:=xq (.slice none 0 0) 0 [] (by simp) n k hk (by omega) w (Rd.nil w 1)
  rw [hvs]
  simpa using this)
 refine h.mono ?_
 rintro x T' ⟨rfl,rfl⟩
 refine ⟨?_,rfl⟩
 rw [pF,←gK];rfl
end
--MsP
section
open Go.RowKit

def nQ (n:Int):Prop:=0≤n∧n≤32
def yZ (n:Int):Int:=4294967296-2^(32-n).toNat
def Cp (a n:Int):Int:=IntKind.wrap .u32 (BitVec.toNat (BitVec.ofInt (IntKind.bits .u32) a&&&BitVec.ofInt (IntKind.bits .u32) (yZ n)):Nat)

abbrev bR:=123
abbrev oE:=92
def EH:aP:=fun _ ys T K=>match ys with
 | [.val (.int .i64 n)]=>nQ n∧K (.val (.int .u32 (yZ n))) T
 | _=>False
theorem Dg (Q:TV→VT→Prop):aq Try.prog ae aS aF 300 az 0 bR [.val (.int .i64 0)] ⟨[], []⟩ Q=
Q (.val (.int .u32 0)) ⟨[], []⟩:=by kernel_rfl
theorem Dh (Q:TV→VT→Prop):aq Try.prog ae aS aF 300 az 0 bR [.val (.int .i64 1)] ⟨[], []⟩ Q=
Q (.val (.int .u32 2147483648)) ⟨[], []⟩:=by kernel_rfl
theorem Di (Q:TV→VT→Prop):aq Try.prog ae aS aF 300 az 0 bR [.val (.int .i64 2)] ⟨[], []⟩ Q=
Q (.val (.int .u32 3221225472)) ⟨[], []⟩:=by kernel_rfl
theorem Dj (Q:TV→VT→Prop):aq Try.prog ae aS aF 300 az 0 bR [.val (.int .i64 3)] ⟨[], []⟩ Q=
Q (.val (.int .u32 3758096384)) ⟨[], []⟩:=by kernel_rfl
theorem Dk (Q:TV→VT→Prop):aq Try.prog ae aS aF 300 az 0 bR [.val (.int .i64 4)] ⟨[], []⟩ Q=
Q (.val (.int .u32 4026531840)) ⟨[], []⟩:=by kernel_rfl
theorem Dl (Q:TV→VT→Prop):aq Try.prog ae aS aF 300 az 0 bR [.val (.int .i64 5)] ⟨[], []⟩ Q=
Q (.val (.int .u32 4160749568)) ⟨[], []⟩:=by kernel_rfl
theorem Dm (Q:TV→VT→Prop):aq Try.prog ae aS aF 300 az 0 bR [.val (.int .i64 6)] ⟨[], []⟩ Q=
Q (.val (.int .u32 4227858432)) ⟨[], []⟩:=by kernel_rfl
theorem Dn (Q:TV→VT→Prop):aq Try.prog ae aS aF 300 az 0 bR [.val (.int .i64 7)] ⟨[], []⟩ Q=
Q (.val (.int .u32 4261412864)) ⟨[], []⟩:=by kernel_rfl
theorem Do (Q:TV→VT→Prop):aq Try.prog ae aS aF 300 az 0 bR [.val (.int .i64 8)] ⟨[], []⟩ Q=
Q (.val (.int .u32 4278190080)) ⟨[], []⟩:=by kernel_rfl
theorem Dp (Q:TV→VT→Prop):aq Try.prog ae aS aF 300 az 0 bR [.val (.int .i64 9)] ⟨[], []⟩ Q=
Q (.val (.int .u32 4286578688)) ⟨[], []⟩:=by kernel_rfl
theorem Bf (Q:TV→VT→Prop):aq Try.prog ae aS aF 300 az 0 bR [.val (.int .i64 10)] ⟨[], []⟩ Q=
Q (.val (.int .u32 4290772992)) ⟨[], []⟩:=by kernel_rfl
theorem Bg (Q:TV→VT→Prop):aq Try.prog ae aS aF 300 az 0 bR [.val (.int .i64 11)] ⟨[], []⟩ Q=
Q (.val (.int .u32 4292870144)) ⟨[], []⟩:=by kernel_rfl
theorem Bh (Q:TV→VT→Prop):aq Try.prog ae aS aF 300 az 0 bR [.val (.int .i64 12)] ⟨[], []⟩ Q=
Q (.val (.int .u32 4293918720)) ⟨[], []⟩:=by kernel_rfl
theorem Bi (Q:TV→VT→Prop):aq Try.prog ae aS aF 300 az 0 bR [.val (.int .i64 13)] ⟨[], []⟩ Q=
Q (.val (.int .u32 4294443008)) ⟨[], []⟩:=by kernel_rfl
theorem Bj (Q:TV→VT→Prop):aq Try.prog ae aS aF 300 az 0 bR [.val (.int .i64 14)] ⟨[], []⟩ Q=
Q (.val (.int .u32 4294705152)) ⟨[], []⟩:=by kernel_rfl
theorem Bk (Q:TV→VT→Prop):aq Try.prog ae aS aF 300 az 0 bR [.val (.int .i64 15)] ⟨[], []⟩ Q=
Q (.val (.int .u32 4294836224)) ⟨[], []⟩:=by kernel_rfl
theorem Bl (Q:TV→VT→Prop):aq Try.prog ae aS aF 300 az 0 bR [.val (.int .i64 16)] ⟨[], []⟩ Q=
Q (.val (.int .u32 4294901760)) ⟨[], []⟩:=by kernel_rfl
theorem Bm (Q:TV→VT→Prop):aq Try.prog ae aS aF 300 az 0 bR [.val (.int .i64 17)] ⟨[], []⟩ Q=
Q (.val (.int .u32 4294934528)) ⟨[], []⟩:=by kernel_rfl
theorem Bn (Q:TV→VT→Prop):aq Try.prog ae aS aF 300 az 0 bR [.val (.int .i64 18)] ⟨[], []⟩ Q=
Q (.val (.int .u32 4294950912)) ⟨[], []⟩:=by kernel_rfl
theorem Bo (Q:TV→VT→Prop):aq Try.prog ae aS aF 300 az 0 bR [.val (.int .i64 19)] ⟨[], []⟩ Q=
Q (.val (.int .u32 4294959104)) ⟨[], []⟩:=by kernel_rfl
theorem Bp (Q:TV→VT→Prop):aq Try.prog ae aS aF 300 az 0 bR [.val (.int .i64 20)] ⟨[], []⟩ Q=
Q (.val (.int .u32 4294963200)) ⟨[], []⟩:=by kernel_rfl
theorem Bq (Q:TV→VT→Prop):aq Try.prog ae aS aF 300 az 0 bR [.val (.int .i64 21)] ⟨[], []⟩ Q=
Q (.val (.int .u32 4294965248)) ⟨[], []⟩:=by kernel_rfl
theorem Br (Q:TV→VT→Prop):aq Try.prog ae aS aF 300 az 0 bR [.val (.int .i64 22)] ⟨[], []⟩ Q=
Q (.val (.int .u32 4294966272)) ⟨[], []⟩:=by kernel_rfl
theorem Bt (Q:TV→VT→Prop):aq Try.prog ae aS aF 300 az 0 bR [.val (.int .i64 23)] ⟨[], []⟩ Q=
Q (.val (.int .u32 4294966784)) ⟨[], []⟩:=by kernel_rfl
theorem Bu (Q:TV→VT→Prop):aq Try.prog ae aS aF 300 az 0 bR [.val (.int .i64 24)] ⟨[], []⟩ Q=
Q (.val (.int .u32 4294967040)) ⟨[], []⟩:=by kernel_rfl
theorem Bv (Q:TV→VT→Prop):aq Try.prog ae aS aF 300 az 0 bR [.val (.int .i64 25)] ⟨[], []⟩ Q=
Q (.val (.int .u32 4294967168)) ⟨[], []⟩:=by kernel_rfl
theorem Bw (Q:TV→VT→Prop):aq Try.prog ae aS aF 300 az 0 bR [.val (.int .i64 26)] ⟨[], []⟩ Q=
Q (.val (.int .u32 4294967232)) ⟨[], []⟩:=by kernel_rfl
theorem Bx (Q:TV→VT→Prop):aq Try.prog ae aS aF 300 az 0 bR [.val (.int .i64 27)] ⟨[], []⟩ Q=
Q (.val (.int .u32 4294967264)) ⟨[], []⟩:=by kernel_rfl
theorem By (Q:TV→VT→Prop):aq Try.prog ae aS aF 300 az 0 bR [.val (.int .i64 28)] ⟨[], []⟩ Q=
Q (.val (.int .u32 4294967280)) ⟨[], []⟩:=by kernel_rfl
theorem Bz (Q:TV→VT→Prop):aq Try.prog ae aS aF 300 az 0 bR [.val (.int .i64 29)] ⟨[], []⟩ Q=
Q (.val (.int .u32 4294967288)) ⟨[], []⟩:=by kernel_rfl
theorem BA (Q:TV→VT→Prop):aq Try.prog ae aS aF 300 az 0 bR [.val (.int .i64 30)] ⟨[], []⟩ Q=
Q (.val (.int .u32 4294967292)) ⟨[], []⟩:=by kernel_rfl
theorem BB (Q:TV→VT→Prop):aq Try.prog ae aS aF 300 az 0 bR [.val (.int .i64 31)] ⟨[], []⟩ Q=
Q (.val (.int .u32 4294967294)) ⟨[], []⟩:=by kernel_rfl
theorem BC (Q:TV→VT→Prop):aq Try.prog ae aS aF 300 az 0 bR [.val (.int .i64 32)] ⟨[], []⟩ Q=
Q (.val (.int .u32 4294967295)) ⟨[], []⟩:=by kernel_rfl
theorem y0 (a n:Int) (Q:TV→VT→Prop):aq Try.prog ae (ax [(bR,EH)]) (aG [(999999, .dead,none)]) 300 az 0 oE [.agg [.val (.int .u32 a), .val (.int .i64 n)]] ⟨[], []⟩ Q=
 (nQ (if (32:Int)<if (0:Int)>n then (0:Int) else n then (32:Int) else if (0:Int)>n then (0:Int) else n)∧
 Q (.agg [(.val (.int .u32 (IntKind.wrap IntKind.u32 (↑(BitVec.toNat (BitVec.ofInt (IntKind.bits IntKind.u32) a&&&BitVec.ofInt (IntKind.bits IntKind.u32) (yZ (if (32:Int)<if (0:Int)>n then (0:Int) else n then (32:Int) else if (0:Int)>n then (0:Int) else n)))):Int)))),(.val (.int .i64 (if (32:Int)<if (0:Int)>n then (0:Int) else n then (32:Int) else if (0:Int)>n then (0:Int) else n)))]) ⟨[(.cells [(.val (.int .u32 (a))),(.val (.int .i64 (n)))]),(.cells [(.val (.int .u32 (IntKind.wrap IntKind.u32 (↑(BitVec.toNat (BitVec.ofInt (IntKind.bits IntKind.u32) a&&&BitVec.ofInt (IntKind.bits IntKind.u32) (yZ (if (32:Int)<if (0:Int)>n then (0:Int) else n then (32:Int) else if (0:Int)>n then (0:Int) else n)))):Int)))),(.val (.int .i64 (if (32:Int)<if (0:Int)>n then (0:Int) else n then (32:Int) else if (0:Int)>n then (0:Int) else n)))])], []⟩):=by kernel_rfl
end
--MsQ
section
open Go.RowKit

theorem y7 {n:Int} (h:nQ n):n=0∨n=1∨n=2∨n=3∨n=4∨n=5∨n=6∨n=7∨n=8∨n=9∨n=10∨n=11∨n=12∨n=13∨n=14∨n=15∨n=16∨n=17∨n=18∨n=19∨n=20∨n=21∨n=22∨n=23∨n=24∨n=25∨n=26∨n=27∨n=28∨n=29∨n=30∨n=31∨n=32:=by
 obtain ⟨h0,h1⟩:=h;omega
theorem Dq {n:Int} (h:nQ n):VCx Try.prog ae 0 bR [.val (.int .i64 n)] ⟨[], []⟩ fun x T' =>x= .val (.int .u32 (yZ n))∧T' =⟨[], []⟩:=by
 rcases y7 h with rfl | rfl | rfl | rfl | rfl | rfl | rfl | rfl | rfl | rfl | rfl | rfl | rfl | rfl | rfl | rfl | rfl | rfl | rfl | rfl | rfl | rfl | rfl | rfl | rfl | rfl | rfl | rfl | rfl | rfl | rfl | rfl | rfl
 ·exact ai ac aa ah ag (Dg _) ⟨rfl,rfl⟩
 ·exact ai ac aa ah ag (Dh _) ⟨rfl,rfl⟩
 ·exact ai ac aa ah ag (Di _) ⟨rfl,rfl⟩
 ·exact ai ac aa ah ag (Dj _) ⟨rfl,rfl⟩
 ·exact ai ac aa ah ag (Dk _) ⟨rfl,rfl⟩
 ·exact ai ac aa ah ag (Dl _) ⟨rfl,rfl⟩
 ·exact ai ac aa ah ag (Dm _) ⟨rfl,rfl⟩
 ·exact ai ac aa ah ag (Dn _) ⟨rfl,rfl⟩
 ·exact ai ac aa ah ag (Do _) ⟨rfl,rfl⟩
 ·exact ai ac aa ah ag (Dp _) ⟨rfl,rfl⟩
 ·exact ai ac aa ah ag (Bf _) ⟨rfl,rfl⟩
 ·exact ai ac aa ah ag (Bg _) ⟨rfl,rfl⟩
 ·exact ai ac aa ah ag (Bh _) ⟨rfl,rfl⟩
 ·exact ai ac aa ah ag (Bi _) ⟨rfl,rfl⟩
 ·exact ai ac aa ah ag (Bj _) ⟨rfl,rfl⟩
 ·exact ai ac aa ah ag (Bk _) ⟨rfl,rfl⟩
 ·exact ai ac aa ah ag (Bl _) ⟨rfl,rfl⟩
 ·exact ai ac aa ah ag (Bm _) ⟨rfl,rfl⟩
 ·exact ai ac aa ah ag (Bn _) ⟨rfl,rfl⟩
 ·exact ai ac aa ah ag (Bo _) ⟨rfl,rfl⟩
 ·exact ai ac aa ah ag (Bp _) ⟨rfl,rfl⟩
 ·exact ai ac aa ah ag (Bq _) ⟨rfl,rfl⟩
 ·exact ai ac aa ah ag (Br _) ⟨rfl,rfl⟩
 ·exact ai ac aa ah ag (Bt _) ⟨rfl,rfl⟩
 ·exact ai ac aa ah ag (Bu _) ⟨rfl,rfl⟩
 ·exact ai ac aa ah ag (Bv _) ⟨rfl,rfl⟩
 ·exact ai ac aa ah ag (Bw _) ⟨rfl,rfl⟩
 ·exact ai ac aa ah ag (Bx _) ⟨rfl,rfl⟩
 ·exact ai ac aa ah ag (By _) ⟨rfl,rfl⟩
 ·exact ai ac aa ah ag (Bz _) ⟨rfl,rfl⟩
 ·exact ai ac aa ah ag (BA _) ⟨rfl,rfl⟩
 ·exact ai ac aa ah ag (BB _) ⟨rfl,rfl⟩
 ·exact ai ac aa ah ag (BC _) ⟨rfl,rfl⟩
theorem vC:∀ro ys T K,EH ro ys T K→VCx Try.prog ae ro bR ys T K:=by
 intro ro ys T K hw
 unfold EH at hw
 split at hw
 ·exact VCx.liftPure ap (Dq hw.1) rfl (fun _ _=>rfl) hw.2
 ·exact hw.elim
theorem Dr (a:Int) {n:Int} (h:nQ n):VCx Try.prog ae 0 oE [.agg [.val (.int .u32 a), .val (.int .i64 n)]] ⟨[], []⟩ fun x T' =>x= .agg [.val (.int .u32 (Cp a n)), .val (.int .i64 n)]∧T' =⟨[], []⟩:=by
 refine VCx.keepQ 0 0 (Nat.le_refl _) (Nat.le_refl _) (ai ac aa (aA fun p hp=>by obtain rfl:=List.mem_singleton.1 hp;exact vC) ag (y0 a n _) ?_)
 have e:(if (32:Int)<if (0:Int)>n then (0:Int) else n then (32:Int) else if (0:Int)>n then (0:Int) else n)=n:=by
  obtain ⟨h0,h1⟩:=h
  rw [if_neg (show ¬(0:Int)>n by omega),if_neg (by omega)]
 rw [e]
 exact ⟨h,rfl,rfl⟩
end
--MsR
section
open Go.RowKit

def cE (p:Int × Int):List TV:= [.val (.int .u32 p.1), .val (.int .i64 p.2)]
end
--MsS
section
open Go.RowKit

theorem oF:∃inf:TypeInfo,Try.prog.info? 29=some inf∧inf.size=2∧inf.bytes+1≤1000∧inf.zero=some (.agg #[.int .u32 0, .int .i64 0]):=
 ⟨(Try.prog.info? 29).getD default,by kernel_rfl,by kernel_rfl,Nat.le_of_ble_eq_true (by kernel_rfl),by kernel_rfl⟩
theorem jc (f g:Nat→Option Nat):∀l:List (Int × Int),bu f g (l.map cE)=l.map cE
 | []=>rfl
 | a::l=>by simp only [List.map_cons,bu,jc f g l];rfl
end
--MsX
section
open Go.RowKit

def o1 (B:Bs):Bs:=HR (1:Nat) B 0
def g1 (B:Bs):Int:=EF (1:Nat) B 0
def m1 (B:Bs):Int:=HT (1:Nat) B 0 0
def o2 (B:Bs):Bs:=HR (2:Nat) (o1 B) (g1 B)
def g2 (B:Bs):Int:=EF (2:Nat) (o1 B) (g1 B)
def m2 (B:Bs):Int:=HT (2:Nat) B (m1 B) (g1 B)
def g3 (B:Bs):Int:=EF (2:Nat) (o2 B) (g2 B)
end
--MsSa
section
open Go.RowKit

def kC (z:Int):Bool:=aT BinOp.neq (an (Value.int IntKind.i64 (IntKind.wrap IntKind.i64 (BitVec.toNat (BitVec.ofInt (IntKind.bits IntKind.i64) z&&&BitVec.ofInt (IntKind.bits IntKind.i64) (16:Int)):Nat))) (Value.int IntKind.i64 (0:Int)))
end
--MsPt
section
open Go.RowKit

def iT (z:Int):List TV:= [.val (.int .i64 z)]
def iV (l:List Int):Bs:=l.map iT
end
--MsPq
section
open Go.RowKit

theorem eR (l:List Int):(iV l).length=l.length:=List.length_map _
theorem dL (f g:Nat→Option Nat):∀l:List Int,bu f g (iV l)=iV l
 | []=>rfl
 | a::l=>by
  have h:=dL f g l
  simp only [iV,List.map_cons,bu] at h ⊢
  rw [h];rfl
theorem BD:∃inf:TypeInfo,Try.prog.info? 3=some inf∧inf.size=1∧inf.bytes+1≤1000∧inf.zero=some (.int .i64 0):=
 ⟨(Try.prog.info? 3).getD default,by kernel_rfl,by kernel_rfl,Nat.le_of_ble_eq_true (by kernel_rfl),by kernel_rfl⟩
theorem lv {x i:Operand} {l:List (Nat × TV)} {b:Bs} {tok:Tok} {k:IntKind} {z:Int} {e:List TV} (hx:aR ae l x= .vec 1 b tok) (hz:aR ae l i= .val (.int k z)) (h0:0≤z) (he:b[z.toNat]?=some e):
  aW Try.prog ae (.indexAddr 30 x i) l (.elt e):=by
 obtain ⟨inf,i1,i2,_,_⟩:=BD
 exact fu (inf:=inf) Try.underlying30 i1 (by rw [i2];exact hx) hz h0 he
end
--MsTk
section
open Go.RowKit

abbrev xr:=93
def mK (a:Int):Bool:=aT BinOp.neq (an (Value.int IntKind.u32 a) (Value.int IntKind.u32 (0:Int)))&&(aT BinOp.neq (an (Value.int IntKind.u32 a) (Value.int IntKind.u32 (4294967295:Int)))&&(aT BinOp.neq (an (Value.int IntKind.u32 (Int.fdiv a ((2:Int)^min (Int.toNat (24:Int)) (IntKind.bits IntKind.u32)))) (Value.int IntKind.u32 (127:Int)))&&aT BinOp.neq (an (Value.int IntKind.u32 (Int.fdiv a ((2:Int)^min (Int.toNat (29:Int)) (IntKind.bits IntKind.u32)))) (Value.int IntKind.u32 (7:Int)))))
def xt:aP:=fun _ ys T K=>match ys with
 | [.val (.int .u32 a)]=>K (.val (.bool (mK a))) T
 | _=>False
def qE (fl t:Int) (v:Bs):TV:= .agg [.val (.int .i64 fl), .val (.int .i64 t), .vec 1 v .none]
theorem EI (a:Int) (Q:TV→VT→Prop):aq Try.prog ae aS aF 300 az 0 xr [.val (.int .u32 a)] ⟨[], []⟩ Q=
 (bif aT BinOp.neq (an (Value.int IntKind.u32 a) (Value.int IntKind.u32 (0:Int)))
 then (bif aT BinOp.neq (an (Value.int IntKind.u32 a) (Value.int IntKind.u32 (4294967295:Int)))
 then (bif aT BinOp.neq (an (Value.int IntKind.u32 (Int.fdiv a ((2:Int)^min (Int.toNat (24:Int)) (IntKind.bits IntKind.u32)))) (Value.int IntKind.u32 (127:Int)))
 then Q (.val (.bool (aT BinOp.neq (an (Value.int IntKind.u32 (Int.fdiv a ((2:Int)^min (Int.toNat (29:Int)) (IntKind.bits IntKind.u32)))) (Value.int IntKind.u32 (7:Int)))))) ⟨[], []⟩
 else Q (.val (.bool false)) ⟨[], []⟩)
 else Q (.val (.bool false)) ⟨[], []⟩)
 else Q (.val (.bool false)) ⟨[], []⟩):=by kernel_rfl
end
--MsTl
section
open Go.RowKit

theorem Ds (a:Int):VCx Try.prog ae 0 xr [.val (.int .u32 a)] ⟨[], []⟩ fun x T' =>x= .val (.bool (mK a))∧T' =⟨[], []⟩:=by
 refine ai ac aa ah ag (EI a _) ?_
 unfold mK
 refine bp (fun c1=> ?_) (fun c1=> ?_)
 ·refine bp (fun c2=> ?_) (fun c2=> ?_)
  ·refine bp (fun c3=> ?_) (fun c3=> ?_)
   ·rw [c1,c2,c3,Bool.true_and,Bool.true_and,Bool.true_and];exact ⟨rfl,rfl⟩
   ·rw [c1,c2,c3,Bool.true_and,Bool.true_and,Bool.false_and];exact ⟨rfl,rfl⟩
  ·rw [c1,c2,Bool.true_and,Bool.false_and];exact ⟨rfl,rfl⟩
 ·rw [c1,Bool.false_and];exact ⟨rfl,rfl⟩
theorem Dt {f:FuncId} (h:∀a,VCx Try.prog ae 0 f [.val (.int .u32 a)] ⟨[], []⟩ fun x T' =>x= .val (.bool (mK a))∧T' =⟨[], []⟩):∀ro ys T K,xt ro ys T K→VCx Try.prog ae ro f ys T K:=by
 intro ro ys T K hw
 unfold xt at hw
 split at hw
 ·exact VCx.liftPure ap (h _) rfl (fun _ _=>rfl) hw
 ·exact hw.elim
end
--MsRb
section
open Go.RowKit

abbrev oG:=139
def G7 (W:List TV) (T:VT):VT:=(T.kill (T.objs.length-1)).newRow ((match T.objs[T.objs.length-1]? with
 | some (.row cs)=>cs
 | _=> [])++W)
theorem Du (fl t:Int) (Q:TV→VT→Prop):aq Try.prog ae aS (aG [(999999, .dead,none)]) 300 az 0 oG [qE fl t []] ⟨[], []⟩ Q=
 (bif aT BinOp.neq (an (Value.int IntKind.i64 (IntKind.wrap IntKind.i64 (↑(BitVec.toNat (BitVec.ofInt (IntKind.bits IntKind.i64) fl&&&BitVec.ofInt (IntKind.bits IntKind.i64) (16:Int))):Int))) (Value.int IntKind.i64 (0:Int)))
 then Q (.row 1 7 0 4) ⟨[(.cells [(.val (.int .i64 (fl))),(.val (.int .i64 (t))),(.vec 1 [] .none)]), .gone,(.row [(.val (.int .u8 (IntKind.wrap IntKind.u8 (Int.fdiv (IntKind.wrap IntKind.u64 fl) ((2:Int)^min (Int.toNat (IntKind.wrap IntKind.i64 ((8:Int)*IntKind.wrap IntKind.i64 ((1:Int)-(1:Int))))) (IntKind.bits IntKind.u64))))))]), .gone,(.row [(.val (.int .u8 (IntKind.wrap IntKind.u8 (Int.fdiv (IntKind.wrap IntKind.u64 fl) ((2:Int)^min (Int.toNat (IntKind.wrap IntKind.i64 ((8:Int)*IntKind.wrap IntKind.i64 ((1:Int)-(1:Int))))) (IntKind.bits IntKind.u64)))))),(.val (.int .u8 (IntKind.wrap IntKind.u8 (Int.fdiv (IntKind.wrap IntKind.u64 t) ((2:Int)^min (Int.toNat (IntKind.wrap IntKind.i64 ((8:Int)*IntKind.wrap IntKind.i64 ((1:Int)-(1:Int))))) (IntKind.bits IntKind.u64))))))]), .gone, .gone,(.row [(.val (.int .u8 (IntKind.wrap IntKind.u8 (Int.fdiv (IntKind.wrap IntKind.u64 fl) ((2:Int)^min (Int.toNat (IntKind.wrap IntKind.i64 ((8:Int)*IntKind.wrap IntKind.i64 ((1:Int)-(1:Int))))) (IntKind.bits IntKind.u64)))))),(.val (.int .u8 (IntKind.wrap IntKind.u8 (Int.fdiv (IntKind.wrap IntKind.u64 t) ((2:Int)^min (Int.toNat (IntKind.wrap IntKind.i64 ((8:Int)*IntKind.wrap IntKind.i64 ((1:Int)-(1:Int))))) (IntKind.bits IntKind.u64)))))),(.val (.int .u8 0)),(.val (.int .u8 0))])], []⟩
 else Q (.row 1 6 0 3) ⟨[(.cells [(.val (.int .i64 (fl))),(.val (.int .i64 (t))),(.vec 1 [] .none)]), .gone,(.row [(.val (.int .u8 (IntKind.wrap IntKind.u8 (Int.fdiv (IntKind.wrap IntKind.u64 fl) ((2:Int)^min (Int.toNat (IntKind.wrap IntKind.i64 ((8:Int)*IntKind.wrap IntKind.i64 ((1:Int)-(1:Int))))) (IntKind.bits IntKind.u64))))))]), .gone,(.row [(.val (.int .u8 (IntKind.wrap IntKind.u8 (Int.fdiv (IntKind.wrap IntKind.u64 fl) ((2:Int)^min (Int.toNat (IntKind.wrap IntKind.i64 ((8:Int)*IntKind.wrap IntKind.i64 ((1:Int)-(1:Int))))) (IntKind.bits IntKind.u64)))))),(.val (.int .u8 (IntKind.wrap IntKind.u8 (Int.fdiv (IntKind.wrap IntKind.u64 t) ((2:Int)^min (Int.toNat (IntKind.wrap IntKind.i64 ((8:Int)*IntKind.wrap IntKind.i64 ((1:Int)-(1:Int))))) (IntKind.bits IntKind.u64))))))]), .gone,(.row [(.val (.int .u8 (IntKind.wrap IntKind.u8 (Int.fdiv (IntKind.wrap IntKind.u64 fl) ((2:Int)^min (Int.toNat (IntKind.wrap IntKind.i64 ((8:Int)*IntKind.wrap IntKind.i64 ((1:Int)-(1:Int))))) (IntKind.bits IntKind.u64)))))),(.val (.int .u8 (IntKind.wrap IntKind.u8 (Int.fdiv (IntKind.wrap IntKind.u64 t) ((2:Int)^min (Int.toNat (IntKind.wrap IntKind.i64 ((8:Int)*IntKind.wrap IntKind.i64 ((1:Int)-(1:Int))))) (IntKind.bits IntKind.u64)))))),(.val (.int .u8 0))])], []⟩):=by kernel_rfl
theorem EJ (fl t:Int) (v w:Bs) (W:List TV) (K N:Nat) (Q:TV→VT→Prop):aq Try.prog ae aS (aG [(999999, .dead,none),(33, .vec 1 w .none,none),(34, .row 1 K 0 N,some (G7 W))]) 300 az 0 oG [qE fl t v] ⟨[], []⟩ Q=
 (bif aT BinOp.neq (an (Value.int IntKind.i64 (IntKind.wrap IntKind.i64 (↑(BitVec.toNat (BitVec.ofInt (IntKind.bits IntKind.i64) fl&&&BitVec.ofInt (IntKind.bits IntKind.i64) (16:Int))):Int))) (Value.int IntKind.i64 (0:Int)))
 then (aW Try.prog (fun _=> .none) (.slice 108 (.tmp 31) .none (.some (.tmp 32)) .none) [(31,(.vec 1 (v) .none)),(32,(.val (.int .i64 (if (65535:Int)<(↑(List.length v):Int) then (65535:Int) else (↑(List.length v):Int)))))] (.vec 1 (w) .none)∧
 (aZ Try.prog (fun _=> .none) 0 ⟨[(.cells [(.val (.int .i64 (fl))),(.val (.int .i64 (t))),(.vec 1 (v) .none)]), .gone,(.row [(.val (.int .u8 (IntKind.wrap IntKind.u8 (Int.fdiv (IntKind.wrap IntKind.u64 fl) ((2:Int)^min (Int.toNat (IntKind.wrap IntKind.i64 ((8:Int)*IntKind.wrap IntKind.i64 ((1:Int)-(1:Int))))) (IntKind.bits IntKind.u64))))))]), .gone,(.row [(.val (.int .u8 (IntKind.wrap IntKind.u8 (Int.fdiv (IntKind.wrap IntKind.u64 fl) ((2:Int)^min (Int.toNat (IntKind.wrap IntKind.i64 ((8:Int)*IntKind.wrap IntKind.i64 ((1:Int)-(1:Int))))) (IntKind.bits IntKind.u64)))))),(.val (.int .u8 (IntKind.wrap IntKind.u8 (Int.fdiv (IntKind.wrap IntKind.u64 t) ((2:Int)^min (Int.toNat (IntKind.wrap IntKind.i64 ((8:Int)*IntKind.wrap IntKind.i64 ((1:Int)-(1:Int))))) (IntKind.bits IntKind.u64))))))]), .gone, .gone,(.row [(.val (.int .u8 (IntKind.wrap IntKind.u8 (Int.fdiv (IntKind.wrap IntKind.u64 fl) ((2:Int)^min (Int.toNat (IntKind.wrap IntKind.i64 ((8:Int)*IntKind.wrap IntKind.i64 ((1:Int)-(1:Int))))) (IntKind.bits IntKind.u64)))))),(.val (.int .u8 (IntKind.wrap IntKind.u8 (Int.fdiv (IntKind.wrap IntKind.u64 t) ((2:Int)^min (Int.toNat (IntKind.wrap IntKind.i64 ((8:Int)*IntKind.wrap IntKind.i64 ((1:Int)-(1:Int))))) (IntKind.bits IntKind.u64)))))),(.val (.int .u8 (IntKind.wrap IntKind.u8 (Int.fdiv (IntKind.wrap IntKind.u64 (if (65535:Int)<(↑(List.length v):Int) then (65535:Int) else (↑(List.length v):Int))) ((2:Int)^min (Int.toNat (IntKind.wrap IntKind.i64 ((8:Int)*IntKind.wrap IntKind.i64 ((2:Int)-(1:Int))))) (IntKind.bits IntKind.u64)))))),(.val (.int .u8 (IntKind.wrap IntKind.u8 (Int.fdiv (IntKind.wrap IntKind.u64 (if (65535:Int)<(↑(List.length v):Int) then (65535:Int) else (↑(List.length v):Int))) ((2:Int)^min (Int.toNat (IntKind.wrap IntKind.i64 ((8:Int)*IntKind.wrap IntKind.i64 (IntKind.wrap IntKind.i64 ((2:Int)-(1:Int))-(1:Int))))) (IntKind.bits IntKind.u64))))))])], []⟩ (.call ⟨(.builtin .append), #[(.tmp 29),(.tmp 33)], #[108,108]⟩) [(29,(.row 1 7 0 4)),(33,(.vec 1 (w) .none))] (.row 1 (K) 0 (N)) ⟨[(.cells [(.val (.int .i64 (fl))),(.val (.int .i64 (t))),(.vec 1 (v) .none)]), .gone,(.row [(.val (.int .u8 (IntKind.wrap IntKind.u8 (Int.fdiv (IntKind.wrap IntKind.u64 fl) ((2:Int)^min (Int.toNat (IntKind.wrap IntKind.i64 ((8:Int)*IntKind.wrap IntKind.i64 ((1:Int)-(1:Int))))) (IntKind.bits IntKind.u64))))))]), .gone,(.row [(.val (.int .u8 (IntKind.wrap IntKind.u8 (Int.fdiv (IntKind.wrap IntKind.u64 fl) ((2:Int)^min (Int.toNat (IntKind.wrap IntKind.i64 ((8:Int)*IntKind.wrap IntKind.i64 ((1:Int)-(1:Int))))) (IntKind.bits IntKind.u64)))))),(.val (.int .u8 (IntKind.wrap IntKind.u8 (Int.fdiv (IntKind.wrap IntKind.u64 t) ((2:Int)^min (Int.toNat (IntKind.wrap IntKind.i64 ((8:Int)*IntKind.wrap IntKind.i64 ((1:Int)-(1:Int))))) (IntKind.bits IntKind.u64))))))]), .gone, .gone, .gone,(.row ([(.val (.int .u8 (IntKind.wrap IntKind.u8 (Int.fdiv (IntKind.wrap IntKind.u64 fl) ((2:Int)^min (Int.toNat (IntKind.wrap IntKind.i64 ((8:Int)*IntKind.wrap IntKind.i64 ((1:Int)-(1:Int))))) (IntKind.bits IntKind.u64)))))),(.val (.int .u8 (IntKind.wrap IntKind.u8 (Int.fdiv (IntKind.wrap IntKind.u64 t) ((2:Int)^min (Int.toNat (IntKind.wrap IntKind.i64 ((8:Int)*IntKind.wrap IntKind.i64 ((1:Int)-(1:Int))))) (IntKind.bits IntKind.u64)))))),(.val (.int .u8 (IntKind.wrap IntKind.u8 (Int.fdiv (IntKind.wrap IntKind.u64 (if (65535:Int)<(↑(List.length v):Int) then (65535:Int) else (↑(List.length v):Int))) ((2:Int)^min (Int.toNat (IntKind.wrap IntKind.i64 ((8:Int)*IntKind.wrap IntKind.i64 ((2:Int)-(1:Int))))) (IntKind.bits IntKind.u64)))))),(.val (.int .u8 (IntKind.wrap IntKind.u8 (Int.fdiv (IntKind.wrap IntKind.u64 (if (65535:Int)<(↑(List.length v):Int) then (65535:Int) else (↑(List.length v):Int))) ((2:Int)^min (Int.toNat (IntKind.wrap IntKind.i64 ((8:Int)*IntKind.wrap IntKind.i64 (IntKind.wrap IntKind.i64 ((2:Int)-(1:Int))-(1:Int))))) (IntKind.bits IntKind.u64))))))]++W))], []⟩∧
 Q (.row 1 (K) 0 (N)) ⟨[(.cells [(.val (.int .i64 (fl))),(.val (.int .i64 (t))),(.vec 1 (v) .none)]), .gone,(.row [(.val (.int .u8 (IntKind.wrap IntKind.u8 (Int.fdiv (IntKind.wrap IntKind.u64 fl) ((2:Int)^min (Int.toNat (IntKind.wrap IntKind.i64 ((8:Int)*IntKind.wrap IntKind.i64 ((1:Int)-(1:Int))))) (IntKind.bits IntKind.u64))))))]), .gone,(.row [(.val (.int .u8 (IntKind.wrap IntKind.u8 (Int.fdiv (IntKind.wrap IntKind.u64 fl) ((2:Int)^min (Int.toNat (IntKind.wrap IntKind.i64 ((8:Int)*IntKind.wrap IntKind.i64 ((1:Int)-(1:Int))))) (IntKind.bits IntKind.u64)))))),(.val (.int .u8 (IntKind.wrap IntKind.u8 (Int.fdiv (IntKind.wrap IntKind.u64 t) ((2:Int)^min (Int.toNat (IntKind.wrap IntKind.i64 ((8:Int)*IntKind.wrap IntKind.i64 ((1:Int)-(1:Int))))) (IntKind.bits IntKind.u64))))))]), .gone, .gone, .gone,(.row ([(.val (.int .u8 (IntKind.wrap IntKind.u8 (Int.fdiv (IntKind.wrap IntKind.u64 fl) ((2:Int)^min (Int.toNat (IntKind.wrap IntKind.i64 ((8:Int)*IntKind.wrap IntKind.i64 ((1:Int)-(1:Int))))) (IntKind.bits IntKind.u64)))))),(.val (.int .u8 (IntKind.wrap IntKind.u8 (Int.fdiv (IntKind.wrap IntKind.u64 t) ((2:Int)^min (Int.toNat (IntKind.wrap IntKind.i64 ((8:Int)*IntKind.wrap IntKind.i64 ((1:Int)-(1:Int))))) (IntKind.bits IntKind.u64)))))),(.val (.int .u8 (IntKind.wrap IntKind.u8 (Int.fdiv (IntKind.wrap IntKind.u64 (if (65535:Int)<(↑(List.length v):Int) then (65535:Int) else (↑(List.length v):Int))) ((2:Int)^min (Int.toNat (IntKind.wrap IntKind.i64 ((8:Int)*IntKind.wrap IntKind.i64 ((2:Int)-(1:Int))))) (IntKind.bits IntKind.u64)))))),(.val (.int .u8 (IntKind.wrap IntKind.u8 (Int.fdiv (IntKind.wrap IntKind.u64 (if (65535:Int)<(↑(List.length v):Int) then (65535:Int) else (↑(List.length v):Int))) ((2:Int)^min (Int.toNat (IntKind.wrap IntKind.i64 ((8:Int)*IntKind.wrap IntKind.i64 (IntKind.wrap IntKind.i64 ((2:Int)-(1:Int))-(1:Int))))) (IntKind.bits IntKind.u64))))))]++W))], []⟩))
 else (aW Try.prog (fun _=> .none) (.slice 108 (.tmp 31) .none (.some (.tmp 32)) .none) [(31,(.vec 1 (v) .none)),(32,(.val (.int .i64 (if (255:Int)<(↑(List.length v):Int) then (255:Int) else (↑(List.length v):Int)))))] (.vec 1 (w) .none)∧
 (aZ Try.prog (fun _=> .none) 0 ⟨[(.cells [(.val (.int .i64 (fl))),(.val (.int .i64 (t))),(.vec 1 (v) .none)]), .gone,(.row [(.val (.int .u8 (IntKind.wrap IntKind.u8 (Int.fdiv (IntKind.wrap IntKind.u64 fl) ((2:Int)^min (Int.toNat (IntKind.wrap IntKind.i64 ((8:Int)*IntKind.wrap IntKind.i64 ((1:Int)-(1:Int))))) (IntKind.bits IntKind.u64))))))]), .gone,(.row [(.val (.int .u8 (IntKind.wrap IntKind.u8 (Int.fdiv (IntKind.wrap IntKind.u64 fl) ((2:Int)^min (Int.toNat (IntKind.wrap IntKind.i64 ((8:Int)*IntKind.wrap IntKind.i64 ((1:Int)-(1:Int))))) (IntKind.bits IntKind.u64)))))),(.val (.int .u8 (IntKind.wrap IntKind.u8 (Int.fdiv (IntKind.wrap IntKind.u64 t) ((2:Int)^min (Int.toNat (IntKind.wrap IntKind.i64 ((8:Int)*IntKind.wrap IntKind.i64 ((1:Int)-(1:Int))))) (IntKind.bits IntKind.u64))))))]), .gone,(.row [(.val (.int .u8 (IntKind.wrap IntKind.u8 (Int.fdiv (IntKind.wrap IntKind.u64 fl) ((2:Int)^min (Int.toNat (IntKind.wrap IntKind.i64 ((8:Int)*IntKind.wrap IntKind.i64 ((1:Int)-(1:Int))))) (IntKind.bits IntKind.u64)))))),(.val (.int .u8 (IntKind.wrap IntKind.u8 (Int.fdiv (IntKind.wrap IntKind.u64 t) ((2:Int)^min (Int.toNat (IntKind.wrap IntKind.i64 ((8:Int)*IntKind.wrap IntKind.i64 ((1:Int)-(1:Int))))) (IntKind.bits IntKind.u64)))))),(.val (.int .u8 (IntKind.wrap IntKind.u8 (Int.fdiv (IntKind.wrap IntKind.u64 (if (255:Int)<(↑(List.length v):Int) then (255:Int) else (↑(List.length v):Int))) ((2:Int)^min (Int.toNat (IntKind.wrap IntKind.i64 ((8:Int)*IntKind.wrap IntKind.i64 ((1:Int)-(1:Int))))) (IntKind.bits IntKind.u64))))))])], []⟩ (.call ⟨(.builtin .append), #[(.tmp 29),(.tmp 33)], #[108,108]⟩) [(29,(.row 1 6 0 3)),(33,(.vec 1 (w) .none))] (.row 1 (K) 0 (N)) ⟨[(.cells [(.val (.int .i64 (fl))),(.val (.int .i64 (t))),(.vec 1 (v) .none)]), .gone,(.row [(.val (.int .u8 (IntKind.wrap IntKind.u8 (Int.fdiv (IntKind.wrap IntKind.u64 fl) ((2:Int)^min (Int.toNat (IntKind.wrap IntKind.i64 ((8:Int)*IntKind.wrap IntKind.i64 ((1:Int)-(1:Int))))) (IntKind.bits IntKind.u64))))))]), .gone,(.row [(.val (.int .u8 (IntKind.wrap IntKind.u8 (Int.fdiv (IntKind.wrap IntKind.u64 fl) ((2:Int)^min (Int.toNat (IntKind.wrap IntKind.i64 ((8:Int)*IntKind.wrap IntKind.i64 ((1:Int)-(1:Int))))) (IntKind.bits IntKind.u64)))))),(.val (.int .u8 (IntKind.wrap IntKind.u8 (Int.fdiv (IntKind.wrap IntKind.u64 t) ((2:Int)^min (Int.toNat (IntKind.wrap IntKind.i64 ((8:Int)*IntKind.wrap IntKind.i64 ((1:Int)-(1:Int))))) (IntKind.bits IntKind.u64))))))]), .gone, .gone,(.row ([(.val (.int .u8 (IntKind.wrap IntKind.u8 (Int.fdiv (IntKind.wrap IntKind.u64 fl) ((2:Int)^min (Int.toNat (IntKind.wrap IntKind.i64 ((8:Int)*IntKind.wrap IntKind.i64 ((1:Int)-(1:Int))))) (IntKind.bits IntKind.u64)))))),(.val (.int .u8 (IntKind.wrap IntKind.u8 (Int.fdiv (IntKind.wrap IntKind.u64 t) ((2:Int)^min (Int.toNat (IntKind.wrap IntKind.i64 ((8:Int)*IntKind.wrap IntKind.i64 ((1:Int)-(1:Int))))) (IntKind.bits IntKind.u64)))))),(.val (.int .u8 (IntKind.wrap IntKind.u8 (Int.fdiv (IntKind.wrap IntKind.u64 (if (255:Int)<(↑(List.length v):Int) then (255:Int) else (↑(List.length v):Int))) ((2:Int)^min (Int.toNat (IntKind.wrap IntKind.i64 ((8:Int)*IntKind.wrap IntKind.i64 ((1:Int)-(1:Int))))) (IntKind.bits IntKind.u64))))))]++W))], []⟩∧
 Q (.row 1 (K) 0 (N)) ⟨[(.cells [(.val (.int .i64 (fl))),(.val (.int .i64 (t))),(.vec 1 (v) .none)]), .gone,(.row [(.val (.int .u8 (IntKind.wrap IntKind.u8 (Int.fdiv (IntKind.wrap IntKind.u64 fl) ((2:Int)^min (Int.toNat (IntKind.wrap IntKind.i64 ((8:Int)*IntKind.wrap IntKind.i64 ((1:Int)-(1:Int))))) (IntKind.bits IntKind.u64))))))]), .gone,(.row [(.val (.int .u8 (IntKind.wrap IntKind.u8 (Int.fdiv (IntKind.wrap IntKind.u64 fl) ((2:Int)^min (Int.toNat (IntKind.wrap IntKind.i64 ((8:Int)*IntKind.wrap IntKind.i64 ((1:Int)-(1:Int))))) (IntKind.bits IntKind.u64)))))),(.val (.int .u8 (IntKind.wrap IntKind.u8 (Int.fdiv (IntKind.wrap IntKind.u64 t) ((2:Int)^min (Int.toNat (IntKind.wrap IntKind.i64 ((8:Int)*IntKind.wrap IntKind.i64 ((1:Int)-(1:Int))))) (IntKind.bits IntKind.u64))))))]), .gone, .gone,(.row ([(.val (.int .u8 (IntKind.wrap IntKind.u8 (Int.fdiv (IntKind.wrap IntKind.u64 fl) ((2:Int)^min (Int.toNat (IntKind.wrap IntKind.i64 ((8:Int)*IntKind.wrap IntKind.i64 ((1:Int)-(1:Int))))) (IntKind.bits IntKind.u64)))))),(.val (.int .u8 (IntKind.wrap IntKind.u8 (Int.fdiv (IntKind.wrap IntKind.u64 t) ((2:Int)^min (Int.toNat (IntKind.wrap IntKind.i64 ((8:Int)*IntKind.wrap IntKind.i64 ((1:Int)-(1:Int))))) (IntKind.bits IntKind.u64)))))),(.val (.int .u8 (IntKind.wrap IntKind.u8 (Int.fdiv (IntKind.wrap IntKind.u64 (if (255:Int)<(↑(List.length v):Int) then (255:Int) else (↑(List.length v):Int))) ((2:Int)^min (Int.toNat (IntKind.wrap IntKind.i64 ((8:Int)*IntKind.wrap IntKind.i64 ((1:Int)-(1:Int))))) (IntKind.bits IntKind.u64))))))]++W))], []⟩))):=by kernel_rfl
end
--MsRc
section
open Go.RowKit

def bz (z:Int) (m:Nat):Int:=IntKind.wrap .u8 (Int.fdiv (IntKind.wrap .u64 z) ((2:Int)^m))
def dm (fl:Int) (v:Bs):Int:=bif kC fl then (if (65535:Int)<(v.length:Int) then 65535 else v.length) else (if (255:Int)<(v.length:Int) then 255 else v.length)
def rt (fl t n:Int):Bs:=bif kC fl then [bT (bz fl 0),bT (bz t 0),bT (bz n 8),bT (bz n 0)] else [bT (bz fl 0),bT (bz t 0),bT (bz n 0)]
def dE (fl t:Int) (v:Bs):Bs:=rt fl t (dm fl v)++v.take (dm fl v).toNat
theorem G8 (z:Int):0≤IntKind.wrap .u8 z∧IntKind.wrap .u8 z<256:=by
 simp only [IntKind.wrap,IntKind.bits,IntKind.signed];simp;omega
theorem lw (z:Int) (m:Nat):0≤bz z m∧bz z m<256:=G8 _
theorem tA (fl:Int) (v:Bs):0≤dm fl v∧(dm fl v).toNat≤v.length:=by
 unfold dm
 cases kC fl<;>simp only [cond_true,cond_false]<;>split<;>omega
theorem pG {fl t:Int} {v:Bs} (hv:IsB v) (hl:v.length≤900000):IsB (dE fl t v):=by
  obtain ⟨⟨l,hl2,hz⟩,_⟩:=hv.take (dm fl v).toNat
  have h1:(v.take (dm fl v).toNat).length≤v.length:=by rw [List.length_take];omega
  unfold dE rt
  rw [hl2] at h1 ⊢
  cases kC fl
  · refine ⟨⟨bz fl 0::bz t 0::bz (dm fl v) 0::l,rfl,fun z hm=> ?_⟩, ?_⟩
    · rcases List.mem_cons.1 hm with rfl | hm;exact lw _ _
      rcases List.mem_cons.1 hm with rfl | hm;exact lw _ _
      rcases List.mem_cons.1 hm with rfl | hm;exact lw _ _
      exact hz z hm
    · simp only [cond_false,List.length_append,List.length_cons,List.length_nil];omega
  · refine ⟨⟨bz fl 0::bz t 0::bz (dm fl v) 8::bz (dm fl v) 0::l,rfl,fun z hm=> ?_⟩, ?_⟩
    · rcases List.mem_cons.1 hm with rfl | hm;exact lw _ _
      rcases List.mem_cons.1 hm with rfl | hm;exact lw _ _
      rcases List.mem_cons.1 hm with rfl | hm;exact lw _ _
      rcases List.mem_cons.1 hm with rfl | hm;exact lw _ _
      exact hz z hm
    · simp only [cond_true,List.length_append,List.length_cons,List.length_nil];omega
theorem VCx.rowB {f:FuncId} {xs:List TV} {es:Bs} (hes:IsB es) (h:VCx Try.prog ae 0 f xs ⟨[], []⟩ fun x T' =>∃id off n,x= .row 1 id off n∧bM T' 1 (.row 1 id off n)=some es):VCx Try.prog ae 0 f xs ⟨[], []⟩ fun x T' =>x= .vec 1 es .none∧T' =⟨[], []⟩:=by
 refine VCx.keepQ 0 0 (Nat.le_refl _) (Nat.le_refl _) ((VCx.freeze (size:=1) (es:=es) (Q:=fun _=>True) (h.mono fun x T' ⟨id,off,n,h1,h2⟩=>⟨id,off,n,h1,h2,trivial⟩)).mono ?_)
 rintro x T' ⟨rfl,_⟩
 exact ⟨by simp only [TV.ren,hes.ren,Tok.ren],rfl⟩
theorem BE (fl t:Int):VCx Try.prog ae 0 oG [qE fl t []] ⟨[], []⟩ fun x T' =>x= .vec 1 (dE fl t []) .none∧T' =⟨[], []⟩:=by
 refine VCx.rowB (pG .nil (by simp)) (ai ac aa ah ag (Du fl t _) ?_)
 refine bp (fun hx=>⟨7,0,4,rfl, ?_⟩) (fun hx=>⟨6,0,3,rfl, ?_⟩)
 ·have e:dE fl t []= [bT (bz fl 0),bT (bz t 0),bT (bz 0 8),bT (bz 0 0)]:=by
   unfold dE rt dm;rw [show kC fl=true from hx];rfl
  rw [e]
  exact gf (es:= [bT (bz fl 0),bT (bz t 0),bT (bz 0 8),bT (bz 0 0)]) (by kernel_rfl) (by intro e he;simp only [List.mem_cons,List.not_mem_nil,or_false] at he;rcases he with rfl | rfl | rfl | rfl<;>rfl)
 ·have e:dE fl t []= [bT (bz fl 0),bT (bz t 0),bT (bz 0 0)]:=by
   unfold dE rt dm;rw [show kC fl=false from hx];rfl
  rw [e]
  exact gf (es:= [bT (bz fl 0),bT (bz t 0),bT (bz 0 0)]) (by kernel_rfl) (by intro e he;simp only [List.mem_cons,List.not_mem_nil,or_false] at he;rcases he with rfl | rfl | rfl<;>rfl)
theorem tB {T T' :VT} {s x:Operand} {l:List (Nat × TV)} {q0:List TV} {qs:Bs} {tok:Tok} {id n:Nat} {cs:List TV} {y:TV} (hs:aR ae l s= .row 1 id 0 n) (ho:T.objs[id]?=some (.row cs)) (hn:n≤cs.length) (hx:aR ae l x= .vec 1 (q0::qs) tok) (hb:n+(q0::qs).length≤2000001)
  (hy:TV.row 1 T.objs.length 0 (n+(q0::qs).length)=y) (hT:(T.kill id).newRow (cs.take n++(q0::qs).flatten)=T'):aZ Try.prog ae 0 T (.call ⟨.builtin .append, #[s,x], #[108,108]⟩) l y T' :=by
 obtain ⟨inf,i1,i2,i3,i4⟩:=jb
 have h:=uY (inf:=inf) (P:=Try.prog) (G:=ae) (ro:=0) (T:=T) (t:=108) (tx:=108) (s:=s) (x:=x) (l:=l) (q0:=q0) (qs:=qs) (tok:=tok) (id:=id) (n:=n) (cs:=cs) Try.underlying108 i1 i4 (by rw [i2];rfl) (by rfl) (by kernel_rfl) (by rw [i2];exact hs) ho (Nat.zero_le _) (by rw [i2];omega) (by rw [i2];exact hx) (by rw [i3];omega)
 rw [i2,Nat.mul_one,hy,hT] at h
 exact h
theorem Dv {fl:Int} {r:List TV} {v:Bs}:0<(dm fl (r::v)).toNat:=by
 unfold dm
 cases kC fl<;>simp only [cond_true,cond_false,List.length_cons]<;>split<;>omega
theorem Dw (fl t:Int) {r:List TV} {v:Bs} (hv:IsB (r::v)) (hl:(r::v).length≤900000):VCx Try.prog ae 0 oG [qE fl t (r::v)] ⟨[], []⟩ fun x T' =>x= .vec 1 (dE fl t (r::v)) .none∧T' =⟨[], []⟩:=by
  obtain ⟨h0,h1⟩:=tA fl (r::v)
  have hp:=Dv (fl:=fl) (r:=r) (v:=v)
  obtain ⟨qs,hqs⟩:∃qs,(r::v).take (dm fl (r::v)).toNat=r::qs:=by
    obtain ⟨k,hk⟩:∃k,(dm fl (r::v)).toNat=k+1:=⟨_,(Nat.succ_pred_eq_of_pos hp).symm⟩
    exact ⟨v.take k,by rw [hk];rfl⟩
  have hql:(r::qs).length≤900000:=by
    rw [←hqs,List.length_take];omega
  have hq1:∀e∈r::qs,e.length=1:=by
    rw [←hqs];exact (hv.take _).len1
  refine VCx.rowB (pG hv hl) (ai ac aa ah ag (EJ fl t (r::v) (r::qs) (r::qs).flatten (bif kC fl then 8 else 7) ((r::qs).length+(bif kC fl then 4 else 3)) _) ?_)
  refine bp (fun hx=> ?_) (fun hx=> ?_)
  · have hx2:kC fl=true:=hx
    have hM:dm fl (r::v)=(if (65535:Int)<((r::v).length:Int) then 65535 else ((r::v).length:Int)):=by unfold dm;rw [hx2];rfl
    rw [hx2,←hM]
    refine ⟨?_,tB (id:=7) (n:=4) (tok:= .none) rfl rfl (Nat.le_refl 4) rfl (by omega) (by rw [Nat.add_comm 4];rfl) rfl,8,0,(r::qs).length+4,rfl, ?_⟩
    · have h:=mJ (x:= .tmp 31) (i:= .tmp 32) (l:= [(31, .vec 1 (r::v) .none),(32, .val (.int .i64 (dm fl (r::v))))]) (b:=r::v) (tok:= .none) (k:= .i64) (z:=dm fl (r::v)) rfl rfl h0 rfl h1
      rwa [hqs] at h
    · have e:dE fl t (r::v)= [bT (bz fl 0),bT (bz t 0),bT (bz (dm fl (r::v)) 8),bT (bz (dm fl (r::v)) 0)]++(r::qs):=by unfold dE rt;rw [hx2,hqs];rfl
      rw [e]
      exact gf (es:= [bT (bz fl 0),bT (bz t 0),bT (bz (dm fl (r::v)) 8),bT (bz (dm fl (r::v)) 0)]++(r::qs)) rfl (fun e he=>by
        rcases List.mem_append.1 he with h | h
        · simp only [List.mem_cons,List.not_mem_nil,or_false] at h;rcases h with rfl | rfl | rfl | rfl<;>rfl
        · exact hq1 e h)
  · have hx2:kC fl=false:=hx
    have hM:dm fl (r::v)=(if (255:Int)<((r::v).length:Int) then 255 else ((r::v).length:Int)):=by unfold dm;rw [hx2];rfl
    rw [hx2,←hM]
    refine ⟨?_,tB (id:=6) (n:=3) (tok:= .none) rfl rfl (Nat.le_refl 3) rfl (by omega) (by rw [Nat.add_comm 3];rfl) rfl,7,0,(r::qs).length+3,rfl, ?_⟩
    · have h:=mJ (x:= .tmp 31) (i:= .tmp 32) (l:= [(31, .vec 1 (r::v) .none),(32, .val (.int .i64 (dm fl (r::v))))]) (b:=r::v) (tok:= .none) (k:= .i64) (z:=dm fl (r::v)) rfl rfl h0 rfl h1
      rwa [hqs] at h
    · have e:dE fl t (r::v)= [bT (bz fl 0),bT (bz t 0),bT (bz (dm fl (r::v)) 0)]++(r::qs):=by unfold dE rt;rw [hx2,hqs];rfl
      rw [e]
      exact gf (es:= [bT (bz fl 0),bT (bz t 0),bT (bz (dm fl (r::v)) 0)]++(r::qs)) rfl (fun e he=>by
        rcases List.mem_append.1 he with h | h
        · simp only [List.mem_cons,List.not_mem_nil,or_false] at h;rcases h with rfl | rfl | rfl<;>rfl
        · exact hq1 e h)
end
--MsRe
section
open Go.RowKit

def jd (fl t:Int) (v:Bs):Prop:=(0≤fl∧fl<256)∧(0≤t∧t<256)∧IsB v∧v.length≤900000
end
--MsUd
section
open Go.RowKit

structure HU where
 w:Bs
 o:Int
 x:Bs
 h:Int
 m:Int
 hm:Bool
 n:Bs
def In:HU:=⟨[],0, [],0,0,false, []⟩
end
--MsHc
section
open Go.RowKit

structure HV where
 n:Int
 h:Int
 i:Int
 l:Bs
def Io:HV:=⟨0,0,0, []⟩
structure Ii where
 k:Int
 op:HV
 u:HU
 c:Int
 s:Int
 d:Bs
def m0:Ii:=⟨0,Io,In,0,0, []⟩
end
--MsWf
section
open Go.RowKit

def Ij (x:Bs):Prop:=∃l:List Int,x=iV l∧l.length≤9223372036854775807
end
--MbB
section
open Go.RowKit

abbrev ru:=125
abbrev je:=130
abbrev oH:=127
abbrev tC:=131
abbrev jf:=100
abbrev nR:=124
abbrev nS:=45
def ef (n k:Int):Prop:=(0≤n∧n≤1000000000000000)∧0≤k∧k≤8
def nT (b:Bs):Prop:=IsB b∧b≠ []
def aL (k n:Int):Bs:=nP k.toNat n.toNat
def BF (a n:Int):Prop:=nQ n∧Cp a n=a
def tD (a n:Int):Prop:=(0≤a∧a<4294967296)∧BF a n
def pH (n:Int):Nat:=((n+7)/8).toNat
def jg (a n:Int):Bs:=bT n::(aL 4 a).take (pH n)
def lx:aP:=fun _ ys T K=>match ys with
 | [x, .val (.int .u64 n), .val (.int .i64 k)]=>match x with
  | .val (.slice none 0 0)=>ef n k∧K (.vec 1 (aL k n) .none) T
  | .vec 1 b _=>(ef n k∧nT b)∧K (.vec 1 (b++aL k n) .none) T
  | _=>ar 85 default ys
 | _=>ar 84 default ys
def hU (kd:IntKind) (k:Int):aP:=fun _ ys T K=>match ys with
 | [x, .val (.int q n)]=>(q=kd)∧match x with
  | .val (.slice none 0 0)=>ef n k∧K (.vec 1 (aL k n) .none) T
  | .vec 1 b _=>(ef n k∧nT b)∧K (.vec 1 (b++aL k n) .none) T
  | _=>ar 85 default ys
 | _=>ar 84 default ys
def Cq:aP:=fun _ ys T K=>match ys with
 | [.agg [.val (.int .u32 a), .val (.int .i64 n)]]=>BF a n∧K (.agg [.val (.int .u32 a), .val (.int .i64 n)]) T
 | _=>ar 84 default ys
def Cr:aP:=fun _ ys T K=>match ys with
 | [.agg [.val (.int .u32 a), .val (.int .i64 n)]]=>tD a n∧K (.vec 1 (jg a n) .none) T
 | _=>ar 84 default ys
def y8:List Nat:= [3,6,7,8]
def vD (B L:Bs) (j:Int):List TV:= [.vec 1 B (.tail 0 B.length), .vec 2 L .none, .val (.int .i64 L.length), .val (.int .i64 j)]
def HW (B L:Bs) (c0:Code):Nat→Option (bD × Code):=b6 [(0,cO 18 y8 [(3,1)] (vD [] L 0) ⟨[], [(0,1,true)]⟩ fun K=>K .normal (ak 18 y8 (vD B L L.length)) ⟨[], [(B.length,1,true)]⟩ [],c0)]
def vE:List Nat:= [0,1,4,7,8]
def rx (l:Bs) (r j:Int):List TV:= [.vec 1 l .none, .fn (.func 95) [] [], .val (.int .i64 r), .val (.int .i64 l.length), .val (.int .i64 j)]
def Ip (l:Bs) (ok:Bool) (K:KX):Prop:=∀z:Nat,bif ok then K .normal (ak 19 vE (rx l 0 l.length)) ⟨[], []⟩ [] else K .ret (ak 19 vE (rx l z z)) ⟨[], []⟩ []
def HY (l:Bs) (ok:Bool) (c0:Code):Nat→Option (bD × Code):=b6 [(0,cO 19 vE [] (rx l 0 0) ⟨[], []⟩ (Ip l ok),c0)]
def vF:List Nat:= [0,1,4,12,13]
def ry (s:Nat) (l m:Bs) (j:Int):List TV:= [.vec s l .none, .vec s m .none, .val (.bool false), .val (.int .i64 l.length), .val (.int .i64 j)]
def Iq (s:Nat) (l m:Bs) (ok:Bool) (K:KX):Prop:=(@Eq Nat l.length m.length)∧∀z:Int,bif ok then K .normal (ak 26 vF (ry s l m l.length)) ⟨[], []⟩ [] else K .ret (ak 26 vF (ry s l m z)) ⟨[], []⟩ []
def EK (s:Nat) (l m:Bs) (ok:Bool) (c0:Code):Nat→Option (bD × Code):=b6 [(0,cO 26 vF [] (ry s l m 0) ⟨[], []⟩ (Iq s l m ok),c0)]
theorem G9 (b:Bs) (tok:Tok) (n:Int) (Q:TV→VT→Prop):aq Try.prog ae (ax [(dK,lx)]) aF 300 az 0 ru [.vec 1 b tok, .val (.int .i64 n)] ⟨[], []⟩ Q=
 ((ef (IntKind.wrap IntKind.u64 n) 1∧
 nT (b))∧
 Q (.vec 1 (b++aL (1:Int) (IntKind.wrap IntKind.u64 n)) .none) ⟨[], []⟩):=by kernel_rfl
theorem EL (n:Int) (Q:TV→VT→Prop):aq Try.prog ae (ax [(dK,lx)]) aF 300 az 0 ru [.val (.slice none 0 0), .val (.int .i64 n)] ⟨[], []⟩ Q=
 (ef (IntKind.wrap IntKind.u64 n) 1∧
 Q (.vec 1 (aL (1:Int) (IntKind.wrap IntKind.u64 n)) .none) ⟨[], []⟩):=by kernel_rfl
theorem EM (b:Bs) (tok:Tok) (n:Int) (Q:TV→VT→Prop):aq Try.prog ae (ax [(dK,lx)]) aF 300 az 0 je [.vec 1 b tok, .val (.int .i64 n)] ⟨[], []⟩ Q=
 ((ef (IntKind.wrap IntKind.u64 n) 2∧
 nT (b))∧
 Q (.vec 1 (b++aL (2:Int) (IntKind.wrap IntKind.u64 n)) .none) ⟨[], []⟩):=by kernel_rfl
theorem Dx (n:Int) (Q:TV→VT→Prop):aq Try.prog ae (ax [(dK,lx)]) aF 300 az 0 je [.val (.slice none 0 0), .val (.int .i64 n)] ⟨[], []⟩ Q=
 (ef (IntKind.wrap IntKind.u64 n) 2∧
 Q (.vec 1 (aL (2:Int) (IntKind.wrap IntKind.u64 n)) .none) ⟨[], []⟩):=by kernel_rfl
theorem EN (b:Bs) (tok:Tok) (n:Int) (Q:TV→VT→Prop):aq Try.prog ae (ax [(dK,lx)]) aF 300 az 0 oH [.vec 1 b tok, .val (.int .u32 n)] ⟨[], []⟩ Q=
 ((ef (IntKind.wrap IntKind.u64 n) 4∧
 nT (b))∧
 Q (.vec 1 (b++aL (4:Int) (IntKind.wrap IntKind.u64 n)) .none) ⟨[], []⟩):=by kernel_rfl
theorem Dy (n:Int) (Q:TV→VT→Prop):aq Try.prog ae (ax [(dK,lx)]) aF 300 az 0 oH [.val (.slice none 0 0), .val (.int .u32 n)] ⟨[], []⟩ Q=
 (ef (IntKind.wrap IntKind.u64 n) 4∧
 Q (.vec 1 (aL (4:Int) (IntKind.wrap IntKind.u64 n)) .none) ⟨[], []⟩):=by kernel_rfl
theorem EO (a n:Int) (q c:Bs) (e:Nat) (Q:TV→VT→Prop):aq Try.prog ae (ax [(oH,hU .u32 4),(oE,Cq)]) (aG [(999998, .dead,none),(16, .vec 1 q .none,none),(17, .vec 1 c (.tail 0 e),some fun T=>{T with tails:= [(e,1,false)]})]) 300 az 0 tC [.agg [.val (.int .u32 a), .val (.int .i64 n)]] ⟨[], []⟩ Q=
 (BF (a) (n)∧
 ((@Eq (IntKind) .u32 .u32)∧
 (ef (a) 4∧
 (((@Eq (Option TV) (.some (.val (.int .i64 (n)))) (.some (.val (.int .i64 (n)))))∧
 ((@Eq (Option TV) (.some (.val (.int .u32 (a)))) (.some (.val (.int .u32 (a)))))∧
 ((@Eq (Option TV) (.some (.val (.int .i64 (n)))) (.some (.val (.int .i64 (n)))))∧
 True)))∧
 (((@Eq (Option TV) (.some (.val (.int .i64 (n)))) (.some (.val (.int .i64 (n)))))∧
 ((@Eq (Option TV) (.some (.val (.int .u32 (a)))) (.some (.val (.int .u32 (a)))))∧
 ((@Eq (Option TV) (.some (.val (.int .i64 (n)))) (.some (.val (.int .i64 (n)))))∧
 True)))∧
 (aW Try.prog (fun _=> .none) (.slice 108 (.tmp 12) .none (.some (.tmp 15)) .none) [(12,(.vec 1 (aL (4:Int) a) .none)),(15,(.val (.int .i64 (IntKind.wrap IntKind.i64 (Int.tdiv (IntKind.wrap IntKind.i64 (IntKind.wrap IntKind.i64 (n+(8:Int))-(1:Int))) (8:Int))))))] (.vec 1 (q) .none)∧
 (aZ Try.prog (fun _=> .none) 0 ⟨[(.cells [(.val (.int .u32 (a))),(.val (.int .i64 (n)))]),(.cells [(.val (.int .u32 (a))),(.val (.int .i64 (n)))])], []⟩ (.call ⟨(.builtin .append), #[(.tmp 9),(.tmp 16)], #[108,108]⟩) [(9,(.vec 1 [[(.val (.int .u8 (IntKind.wrap IntKind.u8 n)))]] .full)),(16,(.vec 1 (q) .none))] (.vec 1 (c) (.tail 0 (e))) ⟨[(.cells [(.val (.int .u32 (a))),(.val (.int .i64 (n)))]),(.cells [(.val (.int .u32 (a))),(.val (.int .i64 (n)))])], [((e),(1,false))]⟩∧
 Q (.vec 1 (c) (.tail 0 (e))) ⟨[(.cells [(.val (.int .u32 (a))),(.val (.int .i64 (n)))]),(.cells [(.val (.int .u32 (a))),(.val (.int .i64 (n)))])], [((e),(1,false))]⟩))))))):=by kernel_rfl
theorem EP (B L:Bs) (Q:TV→VT→Prop):aq Try.prog ae aS aF 300 (HW B L (am Try.prog jf 0)) 0 jf [.vec 2 L .none] ⟨[], []⟩ Q=
 ((am Try.prog jf (0:Nat)=am Try.prog jf (0:Nat))∧
 (((@Eq (Option Nat) .none .none)∧
 ((@Eq (Nat) 0 0)∧
 ((@Eq (List Nat) [] [])∧
 (((@Eq (Option TV) (.some (.val (.slice .none 0 0))) (.some (.val (.slice .none 0 0))))∧
 True)∧
 ((@Eq (VT) ⟨[], [(0,(1,true))]⟩ ⟨[], [(0,(1,true))]⟩)∧
 ((@Eq (Bool) true true)∧
 (@Eq (List TV) [(.vec 1 [] (.tail 0 0)),(.vec 2 (L) .none),(.val (.int .i64 ((↑(List.length L):Int)))),(.val (.int .i64 0))] [(.vec 1 [] (.tail 0 0)),(.vec 2 (L) .none),(.val (.int .i64 ((↑(List.length L):Int)))),(.val (.int .i64 0))])))))))∧
 Q (.vec 1 (B) (.tail 0 (List.length B))) ⟨[], [((List.length B),(1,true))]⟩)):=by kernel_rfl
theorem vG (B B2 L:Bs) (a n:Int) (j:Nat) (Q:Exit→List TV→VT→List Nat→Nat→Prop):vx Try.prog ae (ax [(tC,Cr)]) (aG [(999999, .dead,none),(10, .elt [.val (.int .u32 a), .val (.int .i64 n)],none),(15, .vec 1 B2 (.tail 0 B2.length),some fun T=>{T with tails:= [(B2.length,1,true)]})]) 300 az none 0 (bQ Try.prog jf 0) (ak 18 y8 (vD B L j)) ⟨[], [(B.length,1,true)]⟩ [] (ct y8 Q)=
 (bif decide ((↑j:Int)<(↑(List.length L):Int))
 then (aW Try.prog (fun _=> .none) (.indexAddr 42 (.tmp 6) (.tmp 8)) [(6,(.vec 2 (L) .none)),(8,(.val (.int .i64 ((↑j:Int)))))] (.elt [(.val (.int .u32 (a))),(.val (.int .i64 (n)))])∧
 (tD (a) (n)∧
 (aZ Try.prog (fun _=> .none) 0 ⟨[(.cells [(.val (.int .u32 (a))),(.val (.int .i64 (n)))])], [((List.length B),(1,true))]⟩ (.call ⟨(.builtin .append), #[(.tmp 12),(.tmp 14)], #[108,108]⟩) [(12,(.vec 1 (B) (.tail 0 (List.length B)))),(14,(.vec 1 (jg a n) .none))] (.vec 1 (B2) (.tail 0 (List.length B2))) ⟨[(.cells [(.val (.int .u32 (a))),(.val (.int .i64 (n)))])], [((List.length B2),(1,true))]⟩∧
 Q .normal [(.vec 1 (B2) (.tail 0 (List.length B2))),(.vec 2 (L) .none),(.val (.int .i64 ((↑(List.length L):Int)))),(.val (.int .i64 (IntKind.wrap IntKind.i64 ((↑j:Int)+(1:Int)))))] ⟨[(.cells [(.val (.int .u32 (a))),(.val (.int .i64 (n)))])], [((List.length B2),(1,true))]⟩ [] 18)))
 else Q (.exit 0) [(.vec 1 (B) (.tail 0 (List.length B))),(.vec 2 (L) .none),(.val (.int .i64 ((↑(List.length L):Int)))),(.val (.int .i64 ((↑j:Int))))] ⟨[], [((List.length B),(1,true))]⟩ [] 18):=by kernel_rfl
theorem Ha (l:Bs) (ok:Bool) (Q:TV→VT→Prop):aq Try.prog ae aS aF 300 (HY l ok (am Try.prog nR 0)) 0 nR [.vec 1 l .none, .fn (.func 95) [] []] ⟨[], []⟩ Q=
 ((am Try.prog nR (0:Nat)=am Try.prog nR (0:Nat))∧
 (((@Eq (Option Nat) .none .none)∧
 ((@Eq (Nat) 0 0)∧
 ((@Eq (List Nat) [] [])∧
 (True  ∧
 ((@Eq (VT) ⟨[], []⟩ ⟨[], []⟩)∧
 ((@Eq (Bool) true true)∧
 (@Eq (List TV) [(.vec 1 (l) .none),(.fn (.func 95) [] []),(.val (.int .i64 0)),(.val (.int .i64 ((↑(List.length l):Int)))),(.val (.int .i64 0))] [(.vec 1 (l) .none),(.fn (.func 95) [] []),(.val (.int .i64 0)),(.val (.int .i64 ((↑(List.length l):Int)))),(.val (.int .i64 0))])))))))∧
 (∀z:Nat,(bif ok
 then Q (.val (.int .i64 (-1))) ⟨[], []⟩
 else Q (.val (.int .i64 ((↑z:Int)))) ⟨[], []⟩)))):=by kernel_rfl
theorem y9 (l:Bs) (z:Int) (j:Nat) (Q:Exit→List TV→VT→List Nat→Nat→Prop):vx Try.prog ae aS (aG [(14, .elt [.val (.int .i64 z)],none)]) 300 az none 0 (bQ Try.prog nR 0) (ak 19 vE (rx l 0 j)) ⟨[], []⟩ [] (ct vE Q)=
 (bif decide ((↑j:Int)<(↑(List.length l):Int))
 then (aW Try.prog (fun _=> .none) (.indexAddr 30 (.tmp 12) (.tmp 13)) [(12,(.vec 1 (l) .none)),(13,(.val (.int .i64 ((↑j:Int)))))] (.elt [(.val (.int .i64 (z)))])∧
 (bif decide (z≥(1:Int))
 then (bif !decide (z≤(65535:Int))
 then Q .ret [(.vec 1 (l) .none),(.fn (.func 95) [] []),(.val (.int .i64 ((↑j:Int)))),(.val (.int .i64 ((↑(List.length l):Int)))),(.val (.int .i64 ((↑j:Int))))] ⟨[], []⟩ [] 19
 else Q .normal [(.vec 1 (l) .none),(.fn (.func 95) [] []),(.val (.int .i64 0)),(.val (.int .i64 ((↑(List.length l):Int)))),(.val (.int .i64 (IntKind.wrap IntKind.i64 ((↑j:Int)+(1:Int)))))] ⟨[], []⟩ [] 19)
 else Q .ret [(.vec 1 (l) .none),(.fn (.func 95) [] []),(.val (.int .i64 ((↑j:Int)))),(.val (.int .i64 ((↑(List.length l):Int)))),(.val (.int .i64 ((↑j:Int))))] ⟨[], []⟩ [] 19))
 else Q (.exit 0) [(.vec 1 (l) .none),(.fn (.func 95) [] []),(.val (.int .i64 0)),(.val (.int .i64 ((↑(List.length l):Int)))),(.val (.int .i64 ((↑j:Int))))] ⟨[], []⟩ [] 19):=by kernel_rfl
theorem Cs (l m:Bs) (ok:Bool) (Q:TV→VT→Prop):aq Try.prog ae aS aF 300 (EK 1 l m ok (am Try.prog nS 0)) 0 nS [.vec 1 l .none, .vec 1 m .none] ⟨[], []⟩ Q=
 (bif aT BinOp.neq (an (Value.int IntKind.i64 (↑(List.length l):Int)) (Value.int IntKind.i64 (↑(List.length m):Int)))
 then Q (.val (.bool false)) ⟨[], []⟩
 else ((am Try.prog nS (0:Nat)=am Try.prog nS (0:Nat))∧
 (((@Eq (Option Nat) .none .none)∧
 ((@Eq (Nat) 0 0)∧
 ((@Eq (List Nat) [] [])∧
 (True  ∧
 ((@Eq (VT) ⟨[], []⟩ ⟨[], []⟩)∧
 ((@Eq (Bool) true true)∧
 (@Eq (List TV) [(.vec 1 (l) .none),(.vec 1 (m) .none),(.val (.bool false)),(.val (.int .i64 ((↑(List.length l):Int)))),(.val (.int .i64 0))] [(.vec 1 (l) .none),(.vec 1 (m) .none),(.val (.bool false)),(.val (.int .i64 ((↑(List.length l):Int)))),(.val (.int .i64 0))])))))))∧
 ((@Eq (Nat) (List.length l) (List.length m))∧
 (∀z:Int,(bif ok
 then Q (.val (.bool true)) ⟨[], []⟩
 else Q (.val (.bool false)) ⟨[], []⟩)))))):=by kernel_rfl
theorem za (l m:Bs) (x y:Int) (j:Nat) (Q:Exit→List TV→VT→List Nat→Nat→Prop):vx Try.prog ae aS (aG [(18, .elt [.val (.int .i64 x)],none),(22, .elt [.val (.int .i64 y)],none)]) 300 az none 0 (bQ Try.prog nS 0) (ak 26 vF (ry 1 l m j)) ⟨[], []⟩ [] (ct vF Q)=
 (bif decide ((↑j:Int)<(↑(List.length l):Int))
 then (aW Try.prog (fun _=> .none) (.indexAddr 30 (.tmp 16) (.tmp 17)) [(16,(.vec 1 (l) .none)),(17,(.val (.int .i64 ((↑j:Int)))))] (.elt [(.val (.int .i64 (x)))])∧
 (aW Try.prog (fun _=> .none) (.indexAddr 30 (.tmp 20) (.tmp 21)) [(20,(.vec 1 (m) .none)),(21,(.val (.int .i64 ((↑j:Int)))))] (.elt [(.val (.int .i64 (y)))])∧
 (bif aT BinOp.neq (an (Value.int IntKind.i64 x) (Value.int IntKind.i64 y))
 then Q .ret [(.vec 1 (l) .none),(.vec 1 (m) .none),(.val (.bool false)),(.val (.int .i64 ((↑(List.length l):Int)))),(.val (.int .i64 ((↑j:Int))))] ⟨[], []⟩ [] 26
 else Q .normal [(.vec 1 (l) .none),(.vec 1 (m) .none),(.val (.bool false)),(.val (.int .i64 ((↑(List.length l):Int)))),(.val (.int .i64 (IntKind.wrap IntKind.i64 ((↑j:Int)+(1:Int)))))] ⟨[], []⟩ [] 26)))
 else Q (.exit 0) [(.vec 1 (l) .none),(.vec 1 (m) .none),(.val (.bool false)),(.val (.int .i64 ((↑(List.length l):Int)))),(.val (.int .i64 ((↑j:Int))))] ⟨[], []⟩ [] 26):=by kernel_rfl
end
--MbC
section
open Go.RowKit

theorem cJ {k:Int} (n:Int) (hk:k≤8):IsB (aL k n):=tz (by omega)
theorem bN {k:Int} (n:Int):(aL k n).length=k.toNat:=vB _ _
theorem Dz:∀ro ys T K,lx ro ys T K→VCx Try.prog ae ro dK ys T K:=by
 intro ro ys T K hw
 unfold lx at hw
 split at hw
 ·rename_i x n k
  split at hw
  ·obtain ⟨⟨⟨h1,h1b⟩,h2,h3⟩,hk⟩:=hw
   obtain ⟨n,rfl⟩:=Int.eq_ofNat_of_zero_le h1
   obtain ⟨k,rfl⟩:=Int.eq_ofNat_of_zero_le h2
   have hb:IsB (nP k n):=tz (by omega)
   exact VCx.liftPure ap (Be (n:=n) (k:=k) (by omega)) (by simp only [av,TV.ren]) (fun f g=>by simp only [TV.ren,hb.ren,Tok.ren]) hk
  ·rename_i b tok
   obtain ⟨⟨⟨⟨h1,h1b⟩,h2,h3⟩,hb,hne⟩,hk⟩:=hw
   obtain ⟨n,rfl⟩:=Int.eq_ofNat_of_zero_le h1
   obtain ⟨k,rfl⟩:=Int.eq_ofNat_of_zero_le h2
   have hp:=cJ (k:=((k:Nat):Int)) ((n:Nat):Int) h3
   refine VCx.liftPure ap (Df (n:=n) (k:=k) hb hne (tok.ren (bb []) (bb [])) (by omega)) (by simp only [av,TV.ren,hb.ren]) (fun f g=> ?_) hk
   have e:bu f g (b++aL ((k:Nat):Int) ((n:Nat):Int))=b++aL ((k:Nat):Int) ((n:Nat):Int):=by rw [bO,List.map_append,←bO,←bO,hb.ren,hp.ren]
   simp only [TV.ren,Tok.ren]
   exact congrArg (fun z=>TV.vec 1 z .none) e
  ·exact hw.elim
 ·exact hw.elim
theorem jH {n:Int} (h0:0≤n) (h1:n≤1000000000000000):IntKind.u64.wrap n=n:=by
 simp only [IntKind.wrap,IntKind.bits,IntKind.signed];simp;omega
theorem nr:aY Try.prog ae (ax [(dK,lx)]):=aA fun p hp=>by obtain rfl:=List.mem_singleton.1 hp;exact Dz
theorem qF {b c:Bs} (hb:IsB b) (hc:IsB c) (f g:Nat→Option Nat):bu f g (b++c)=b++c:=by
 rw [bO,List.map_append,←bO,←bO,hb.ren,hc.ren]
theorem qG {f:FuncId} {kd:IntKind} {k:Int} (h0:∀{n:Int},0≤n→n≤1000000000000000→VCx Try.prog ae 0 f [.val (.slice none 0 0), .val (.int kd n)] ⟨[], []⟩ fun x T' =>x= .vec 1 (aL k n) .none∧T' =⟨[], []⟩)
  (h1:∀{n:Int} {b:Bs} (tok:Tok),0≤n→n≤1000000000000000→IsB b→b≠ []→VCx Try.prog ae 0 f [.vec 1 b tok, .val (.int kd n)] ⟨[], []⟩ fun x T' =>x= .vec 1 (b++aL k n) .none∧T' =⟨[], []⟩):
  ∀ro ys T K,hU kd k ro ys T K→VCx Try.prog ae ro f ys T K:=by
 intro ro ys T K hw
 unfold hU at hw
 split at hw
 ·rename_i x q n
  obtain ⟨rfl,hw⟩:=hw
  split at hw
  ·obtain ⟨⟨⟨g1,hn⟩,g2,g3⟩,hk⟩:=hw
   exact VCx.liftPure ap (h0 g1 hn) (by simp only [av,TV.ren]) (fun f g=>by simp only [TV.ren,(cJ n g3).ren,Tok.ren]) hk
  ·rename_i b tok
   obtain ⟨⟨⟨⟨g1,hn⟩,g2,g3⟩,hb,hne⟩,hk⟩:=hw
   exact VCx.liftPure ap (h1 (tok.ren (bb []) (bb [])) g1 hn hb hne) (by simp only [av,TV.ren,hb.ren]) (fun f g=>by simp only [TV.ren,qF hb (cJ n g3),Tok.ren]) hk
  ·exact hw.elim
 ·exact hw.elim
theorem Ct:∀ro ys T K,hU .i64 1 ro ys T K→VCx Try.prog ae ro ru ys T K:=qG
 (fun g hn=>ai ac aa nr ag (EL _ _) (by rw [jH g hn];exact ⟨⟨⟨g,hn⟩,by decide,by decide⟩,rfl,rfl⟩))
 (fun tok g hn hb hne=>ai ac aa nr ag (G9 _ tok _ _) (by rw [jH g hn];exact ⟨⟨⟨⟨g,hn⟩,by decide,by decide⟩,hb,hne⟩,rfl,rfl⟩))
theorem EQ:∀ro ys T K,hU .i64 2 ro ys T K→VCx Try.prog ae ro je ys T K:=qG
 (fun g hn=>ai ac aa nr ag (Dx _ _) (by rw [jH g hn];exact ⟨⟨⟨g,hn⟩,by decide,by decide⟩,rfl,rfl⟩))
 (fun tok g hn hb hne=>ai ac aa nr ag (EM _ tok _ _) (by rw [jH g hn];exact ⟨⟨⟨⟨g,hn⟩,by decide,by decide⟩,hb,hne⟩,rfl,rfl⟩))
theorem zb:∀ro ys T K,hU .u32 4 ro ys T K→VCx Try.prog ae ro oH ys T K:=qG
 (fun g hn=>ai ac aa nr ag (Dy _ _) (by rw [jH g hn];exact ⟨⟨⟨g,hn⟩,by decide,by decide⟩,rfl,rfl⟩))
 (fun tok g hn hb hne=>ai ac aa nr ag (EN _ tok _ _) (by rw [jH g hn];exact ⟨⟨⟨⟨g,hn⟩,by decide,by decide⟩,hb,hne⟩,rfl,rfl⟩))
theorem Hb:∀ro ys T K,Cq ro ys T K→VCx Try.prog ae ro oE ys T K:=by
 intro ro ys T K hw
 unfold Cq at hw
 split at hw
 ·obtain ⟨⟨h1,h2⟩,hk⟩:=hw
  refine VCx.liftPure ap (Dr _ h1) rfl (fun _ _=>rfl) ?_
  rw [h2];exact hk
 ·exact hw.elim
theorem ER {n:Int} (h0:0≤n) (h1:n≤32):IntKind.u8.wrap n=n:=by
 simp only [IntKind.wrap,IntKind.bits,IntKind.signed];simp;omega
theorem ES {n:Int} (h0:0≤n) (h1:n≤32):IntKind.i64.wrap (Int.tdiv (IntKind.i64.wrap (IntKind.i64.wrap (n+8)-1)) 8)=(n+7)/8:=by
 rw [fg (z:=n+8) (by omega) (by omega),fg (z:=n+8-1) (by omega) (by omega),show n+8-1=n+7 by omega,Int.tdiv_eq_ediv_of_nonneg (by omega),fg (by omega) (by omega)]
theorem tE {a n:Int} (h0:0≤n) (h1:n≤32):IsB (jg a n):=by
 obtain ⟨⟨l,hl,hz⟩,hlen⟩:=(cJ (k:=4) a (by decide)).take (pH n)
 refine ⟨⟨n::l,by unfold jg;rw [hl];rfl,fun z h=> ?_⟩,by unfold jg;simp only [List.length_cons,List.length_take,bN];omega⟩
 rcases List.mem_cons.1 h with rfl | h
 ·omega
 ·exact hz z h
theorem DA {a n:Int} (h:tD a n):VCx Try.prog ae 0 tC [.agg [.val (.int .u32 a), .val (.int .i64 n)]] ⟨[], []⟩ fun x T' =>x= .vec 1 (jg a n) .none∧T' =⟨[], []⟩:=by
 obtain ⟨⟨a0,a1⟩,⟨n0,n1⟩,hc⟩:=h
 have hS:aY Try.prog ae (ax [(oH,hU .u32 4),(oE,Cq)]):=aA fun p hp=>by
  rcases List.mem_cons.1 hp with rfl | hp;exact zb
  obtain rfl:=List.mem_singleton.1 hp;exact Hb
 have hb:=tE (a:=a) n0 n1
 have hl:(jg a n).length=1+(min (pH n) 4):=by unfold jg;simp only [List.length_cons,List.length_take,bN];omega
 refine VCx.toLe (Q:=fun T' =>T' =⟨[], []⟩) (VCx.keepQ 0 0 (Nat.le_refl _) (Nat.le_refl _) (ai ac aa hS ag (EO a n ((aL 4 a).take (pH n)) (jg a n) (0+((aL 4 a).take (pH n)).length) _) ⟨⟨⟨n0,n1⟩,hc⟩,rfl,⟨⟨a0,by omega⟩,by decide,by decide⟩,⟨rfl,rfl,rfl,trivial⟩,⟨rfl,rfl,rfl,trivial⟩, ?_, ?_, ?_,rfl⟩))
 ·rw [ES n0 n1]
  have h:=mJ (x:= .tmp 12) (i:= .tmp 15) (l:= [(12, .vec 1 (aL 4 a) .none),(15, .val (.int .i64 ((n+7)/8)))]) (b:=aL 4 a) (tok:= .none) (k:= .i64) (z:=(n+7)/8) (n:=pH n) rfl rfl (by omega) rfl (by rw [bN];unfold pH;omega)
  exact h
 ·rw [ER n0 n1]
  have h:=nq (ro:=0) (T:=⟨[.cells [.val (.int .u32 a), .val (.int .i64 n)], .cells [.val (.int .u32 a), .val (.int .i64 n)]], []⟩) (T1:=⟨[.cells [.val (.int .u32 a), .val (.int .i64 n)], .cells [.val (.int .u32 a), .val (.int .i64 n)]], [(0,1,false)]⟩) (s:= .tmp 9) (x:= .tmp 16) (l:= [(9, .vec 1 [bT n] .full),(16, .vec 1 ((aL 4 a).take (pH n)) .none)]) (es:= [bT n]) (es2:=(aL 4 a).take (pH n)) (k:=0) (n:=0) (bn:=false) rfl rfl (by simp only [List.length_cons,List.length_nil,List.length_take,bN];omega)
  exact h
 ·simp only [TV.ren,hb.ren]
  exact .vec 1 _ _
theorem ET:∀ro ys T K,Cr ro ys T K→VCx Try.prog ae ro tC ys T K:=by
 intro ro ys T K hw
 unfold Cr at hw
 split at hw
 ·obtain ⟨h,hk⟩:=hw
  exact VCx.liftPure ap (DA h) rfl (fun f g=>by simp only [TV.ren,(tE (a:=_) h.2.1.1 h.2.1.2).ren,Tok.ren]) hk
 ·exact hw.elim
def ly (l:List (Int × Int)):Prop:=(∀p∈l,tD p.1 p.2)∧l.length≤100000
def cG (l:List (Int × Int)):Bs:=l.flatMap fun p=>jg p.1 p.2
theorem vH {a n:Int}:(jg a n).length≤5:=by unfold jg;simp only [List.length_cons,List.length_take,bN];omega
theorem eS:∀l:List (Int × Int),(cG l).length≤5*l.length
 | []=>Nat.le_refl _
 | p::l=>by
  have:=eS l
  have h2:=vH (a:=p.1) (n:=p.2)
  simp only [cG,List.flatMap_cons,List.length_append,List.length_cons] at this ⊢
  omega
theorem gL:∀{l:List (Int × Int)},ly l→IsB (cG l)
  | [],_=> .nil
  | p::l,h=>by
    have h1:=gL (l:=l) ⟨fun q hq=>h.1 q (List.mem_cons_of_mem _ hq),by have:=h.2;simp only [List.length_cons] at this;omega⟩
    obtain ⟨⟨m,hm,hz⟩,_⟩:=h1
    obtain ⟨⟨k,hk,hy⟩,_⟩:=tE (a:=p.1) (h.1 p List.mem_cons_self).2.1.1 (h.1 p List.mem_cons_self).2.1.2
    have hl:=eS (p::l)
    have h2:=h.2
    refine ⟨⟨k++m, ?_,fun z h=> ?_⟩,by omega⟩
    · show jg p.1 p.2++cG l=_
      rw [hk,hm,bV,bV,bV,List.map_append]
    · rcases List.mem_append.1 h with h | h
      · exact hy z h
      · exact hz z h
theorem zc {l:List (Int × Int)} {j:Nat} (h:j<l.length):cG (l.take (j+1))=cG (l.take j)++jg l[j].1 l[j].2:=by
 unfold cG
 rw [List.take_add_one,List.getElem?_eq_getElem h,List.flatMap_append]
 simp
theorem vI (objs:List VO) (A c:Bs) (h:A.length+c.length≤1000000) (s x:Nat) (hne:Nat.beq s x=false):aZ Try.prog ae 0 ⟨objs, [(A.length,1,true)]⟩ (.call ⟨.builtin .append, #[.tmp s, .tmp x], #[108,108]⟩) [(s, .vec 1 A (.tail 0 A.length)),(x, .vec 1 c .none)] (.vec 1 (A++c) (.tail 0 (A++c).length)) ⟨objs, [((A++c).length,1,true)]⟩:=by
 have h:=nq (ro:=0) (T:=⟨objs, [(A.length,1,true)]⟩) (T1:=⟨objs, [(A.length,1,true)]⟩) (s:= .tmp s) (x:= .tmp x) (l:= [(s, .vec 1 A (.tail 0 A.length)),(x, .vec 1 c .none)]) (es:=A) (es2:=c) (k:=0) (n:=A.length) (bn:=true) (by simp [aR,cR,fm]) (by simp [aR,cR,hne,gR]) (by omega)
 rw [List.length_append]
 exact h
theorem tF {x i:Operand} {l:List (Nat × TV)} {es:Bs} {tok:Tok} {k:IntKind} {z:Int} {cs:List TV} (hx:aR ae l x= .vec 2 es tok) (hz:aR ae l i= .val (.int k z)) (h0:0≤z) (he:es[z.toNat]?=some cs):aW Try.prog ae (.indexAddr 42 x i) l (.elt cs):=by
 obtain ⟨inf,i1,i2,i3,i4⟩:=oF
 exact fu (inf:=inf) Try.underlying42 i1 (by rw [i2];exact hx) hz h0 he
theorem BG {l:List (Int × Int)} (hl:ly l):gH Try.prog ae (HW (cG l) (l.map cE) (am Try.prog jf 0)):=bf fun p hp=>by
  obtain rfl:=List.mem_singleton.1 hp
  have hS:aY Try.prog ae (ax [(tC,Cr)]):=aA fun p hp=>by obtain rfl:=List.mem_singleton.1 hp;exact ET
  refine bq fun K hK=> ?_
  have htk:∀j,ly (l.take j):=fun j=>⟨fun p hp=>hl.1 p (List.mem_of_mem_take hp),by have:=hl.2;rw [List.length_take];omega⟩
  refine cH (f:=jf) (id:=0) (by kernel_rfl) 18 y8 (fun j:Nat=>l.length-j) (fun j:Nat=>vD (cG (l.take j)) (l.map cE) j) (fun j=>⟨[], [((cG (l.take j)).length,1,true)]⟩) (fun j=>j≤l.length) 0 1 (fun _ _=>⟨Nat.le_refl _,Nat.le_refl _⟩)
    (fun e vs T=>e= .normal∧vs=vD (cG l) (l.map cE) (l.map cE).length∧T=⟨[], [((cG l).length,1,true)]⟩) (fun j hj=> ?_) 0 (Nat.zero_le _) K ?_
  · by_cases hlt:j<l.length
    · have hat:(l.map cE)[((j:Nat):Int).toNat]?=some (cE l[j]):=by rw [Int.toNat_natCast,List.getElem?_map,List.getElem?_eq_getElem hlt];rfl
      have hp:=hl.1 _ (List.getElem_mem hlt)
      have hb1:=eS (l.take j)
      have hb2:=vH (a:=l[j].1) (n:=l[j].2)
      have hll:=hl.2
      rw [List.length_take] at hb1
      have ht:=vI [.cells (cE l[j])] (cG (l.take j)) (jg l[j].1 l[j].2) (by omega) 12 14 rfl
      rw [←zc hlt] at ht
      refine bh ac aa hS ag (vG (cG (l.take j)) (cG (l.take (j+1))) (l.map cE) l[j].1 l[j].2 j _) ?_
      refine be (decide_eq_true (by rw [List.length_map];omega)) ⟨tF rfl rfl (by omega) hat,hp,ht,rfl,rfl,j+1,hlt,by show l.length-(j+1)<l.length-j;omega, .inr ⟨rfl, ?_⟩⟩
      simp only [av,TV.ren,jc,(gL (htk (j+1))).ren,Tok.ren]
      rw [sc hlt (by omega)]
      rfl
    · have hj2:j=l.length:=by omega
      refine bh ac aa hS ag (vG (cG (l.take j)) [] (l.map cE) 0 0 j _) ?_
      subst hj2
      exact aI (decide_eq_false (by rw [List.length_map];omega)) ⟨rfl,rfl,rfl,by simp only [vD,List.length_map,List.take_length],by rw [List.take_length]⟩
  · rintro e vs T ⟨rfl,rfl,rfl⟩
    exact hK
theorem DB {l:List (Int × Int)} (hl:ly l):VCx Try.prog ae 0 jf [.vec 2 (l.map cE) .none] ⟨[], []⟩ fun x T' =>x= .vec 1 (cG l) .none∧T' =⟨[], []⟩:=by
 refine VCx.toLe (Q:=fun T' =>T' =⟨[], []⟩) (VCx.keepQ 0 0 (Nat.le_refl _) (Nat.le_refl _) (ai ac aa ah (BG hl) (EP (cG l) (l.map cE) _) ⟨rfl,⟨rfl,rfl,rfl,⟨rfl,trivial⟩,rfl,rfl,rfl⟩, ?_,rfl⟩))
 simp only [TV.ren,(gL hl).ren]
 exact .vec 1 _ _
def dD (z:Int):Bool:=decide (z≥1)&&decide (z≤65535)
theorem DC {l:List Int} (hn:l.length≤9223372036854775807):gH Try.prog ae (HY (iV l) (l.all dD) (am Try.prog nR 0)):=bf fun p hp=>by
  obtain rfl:=List.mem_singleton.1 hp
  refine bq fun K hK=> ?_
  refine cH (f:=nR) (id:=0) (by kernel_rfl) 19 vE (fun j:Nat=>l.length-j) (fun j:Nat=>rx (iV l) 0 j) (fun _=>⟨[], []⟩) (fun j=>j≤l.length∧(l.take j).all dD=true) 0 0 (fun _ _=>⟨Nat.le_refl _,Nat.le_refl _⟩)
    (fun e vs T=>T=⟨[], []⟩∧((e= .normal∧l.all dD=true∧vs=rx (iV l) 0 (iV l).length)∨(e= .ret∧l.all dD=false∧∃z:Nat,vs=rx (iV l) z z))) (fun j hj=> ?_) 0 ⟨Nat.zero_le _,rfl⟩ K ?_
  · obtain ⟨hj,hall⟩:=hj
    by_cases hlt:j<l.length
    · have hat:(iV l)[((j:Nat):Int).toNat]?=some (iT l[j]):=by rw [Int.toNat_natCast,iV,List.getElem?_map,List.getElem?_eq_getElem hlt];rfl
      have bad:dD l[j]=false→l.all dD=false:=fun h=>by
        cases hc:l.all dD
        · rfl
        · have:=List.all_eq_true.1 hc _ (List.getElem_mem hlt);rw [h] at this;cases this
      refine bh ac aa ah ag (y9 (iV l) l[j] j _) ?_
      refine be (decide_eq_true (by rw [eR];omega)) ⟨lv rfl rfl (by omega) hat,bp (fun c1=>bp (fun c2=> ?_) (fun c2=> ?_)) (fun c1=> ?_)⟩
      · exact ⟨rfl,rfl,rfl, .inr ⟨rfl,bad (by unfold dD;rw [c1];cases h:decide (l[j]≤65535)<;>rw [h] at c2<;>first | rfl | cases c2),j,rfl⟩⟩
      · have c2:decide (l[j]≤65535)=true:=by cases h:decide (l[j]≤65535)<;>rw [h] at c2<;>first | rfl | cases c2
        refine ⟨rfl,rfl,j+1,⟨hlt, ?_⟩,by show l.length-(j+1)<l.length-j;omega, .inl ⟨rfl,by rw [yV hlt hn];rfl⟩⟩
        rw [List.take_add_one,List.getElem?_eq_getElem hlt,List.all_append,hall]
        simp only [Option.toList_some,List.all_cons,List.all_nil,Bool.and_true,Bool.true_and]
        unfold dD;rw [c1,c2];rfl
      · exact ⟨rfl,rfl,rfl, .inr ⟨rfl,bad (by unfold dD;rw [c1];rfl),j,rfl⟩⟩
    · have hj2:j=l.length:=by omega
      subst hj2
      rw [List.take_length] at hall
      refine bh ac aa ah ag (y9 (iV l) 0 l.length _) ?_
      exact aI (decide_eq_false (by rw [eR];omega)) ⟨rfl,rfl,rfl, .inl ⟨rfl,hall,by simp only [rx,eR]⟩⟩
  · rintro e vs T ⟨rfl,⟨rfl,h1,rfl⟩ | ⟨rfl,h1,z,rfl⟩⟩
    · have:=hK 0;rw [h1] at this;exact this
    · have:=hK z;rw [h1] at this;exact this
end
--MbD
section
open Go.RowKit

def au (l:List (Int × Int)):Bs:=l.map cE
theorem vJ {l m:List Int} (hn:l.length≤9223372036854775807):gH Try.prog ae (EK 1 (iV l) (iV m) (decide (l=m)) (am Try.prog nS 0)):=bf fun p hp=>by
  obtain rfl:=List.mem_singleton.1 hp
  have hL:∀l:List Int,(iV l).length=l.length:=fun l=>List.length_map _
  refine bq fun K hK=> ?_
  obtain ⟨hlm,hK⟩:=hK
  rw [hL,hL] at hlm
  refine cH (f:=nS) (id:=0) (by kernel_rfl) 26 vF (fun j:Nat=>l.length-j) (fun j:Nat=>ry 1 (iV l) (iV m) j) (fun _=>⟨[], []⟩) (fun j=>j≤l.length∧l.take j=m.take j) 0 0 (fun _ _=>⟨Nat.le_refl _,Nat.le_refl _⟩)
    (fun e vs T=>T=⟨[], []⟩∧((e= .normal∧l=m∧vs=ry 1 (iV l) (iV m) (iV l).length)∨(e= .ret∧l≠m∧∃z:Int,vs=ry 1 (iV l) (iV m) z))) (fun j hj=> ?_) 0 ⟨Nat.zero_le _,rfl⟩ K ?_
  · obtain ⟨hj,hall⟩:=hj
    by_cases hlt:j<l.length
    · have hlt2:j<m.length:=by omega
      have hat:(iV l)[((j:Nat):Int).toNat]?=some (iT l[j]):=by rw [Int.toNat_natCast];show (l.map _)[j]?=_;rw [List.getElem?_map,List.getElem?_eq_getElem hlt];rfl
      have hat2:(iV m)[((j:Nat):Int).toNat]?=some (iT m[j]):=by rw [Int.toNat_natCast];show (m.map _)[j]?=_;rw [List.getElem?_map,List.getElem?_eq_getElem hlt2];rfl
      refine bh ac aa ah ag (za (iV l) (iV m) l[j] m[j] j _) ?_
      refine be (decide_eq_true (by rw [hL];omega)) ⟨lv rfl rfl (by omega) hat,lv rfl rfl (by omega) hat2, ?_⟩
      rw [yX]
      refine bp (fun c1=> ?_) (fun c1=> ?_)
      · refine ⟨rfl,rfl,rfl, .inr ⟨rfl,fun h=> ?_,j,rfl⟩⟩
        subst h
        simp at c1
      · refine ⟨rfl,rfl,j+1,⟨hlt, ?_⟩,by show l.length-(j+1)<l.length-j;omega, .inl ⟨rfl,by rw [yV hlt hn];rfl⟩⟩
        have he:l[j]=m[j]:=by simpa using c1
        rw [List.take_add_one,List.getElem?_eq_getElem hlt,List.take_add_one,List.getElem?_eq_getElem hlt2,hall,he]
    · have hj2:j=l.length:=by omega
      subst hj2
      rw [List.take_length,hlm,List.take_length] at hall
      refine bh ac aa ah ag (za (iV l) (iV m) 0 0 l.length _) ?_
      exact aI (decide_eq_false (by rw [hL];omega)) ⟨rfl,rfl,rfl, .inl ⟨rfl,hall,by simp only [ry,hL]⟩⟩
  · rintro e vs T ⟨rfl,⟨rfl,h1,rfl⟩ | ⟨rfl,h1,z,rfl⟩⟩
    · have:=hK 0;rw [decide_eq_true h1] at this;exact this
    · have:=hK z;rw [decide_eq_false h1] at this;exact this
theorem EU {l m:List Int} (hn:l.length≤9223372036854775807):VCx Try.prog ae 0 nS [.vec 1 (iV l) .none, .vec 1 (iV m) .none] ⟨[], []⟩ fun x T' =>x= .val (.bool (decide (l=m)))∧T' =⟨[], []⟩:=by
  have hL:∀l:List Int,(iV l).length=l.length:=fun l=>List.length_map _
  refine VCx.keepQ 0 0 (Nat.le_refl _) (Nat.le_refl _) ?_
  by_cases hlm:l.length=m.length
  · refine ai ac aa ah (vJ hn) (Cs (iV l) (iV m) _ _) ?_
    rw [yX,hL,hL]
    refine aI (by rw [decide_eq_true (by omega)];rfl) ⟨rfl,⟨rfl,rfl,rfl,trivial,rfl,rfl,by rw [←hL l]⟩,hlm,fun z=> ?_⟩
    by_cases h:l=m
    · rw [decide_eq_true h];exact ⟨rfl,rfl⟩
    · rw [decide_eq_false h];exact ⟨rfl,rfl⟩
  · have hne:l≠m:=fun h=>hlm (by rw [h])
    refine ai ac aa ah (vJ hn) (Cs (iV l) (iV m) _ _) ?_
    rw [yX,hL,hL]
    exact be (by rw [decide_eq_false (by omega)];rfl) ⟨by rw [decide_eq_false hne];rfl,rfl⟩
end
--MbE
section
open Go.RowKit

def xu (fl t:Int) (v:Bs):List TV:= [.val (.int .i64 fl), .val (.int .i64 t), .vec 1 v .none]
def rz (b:Bs):List Int:=b.map Ig
def mL (b:Bs):Bool:= !(rz b).all dD
def vK (a b:Bs):Bool:=decide (rz a=rz b)
def jZ (b:Bs):Prop:=Ij b
def EV (fl t:Int) (v:Bs):Prop:=jd fl t v
def EW (fl t:Int) (v:Bs):Bs:=dE fl t v
def Ir:List TV→Bs
 | [.val (.int _ fl), .val (.int _ t), .vec _ v _]=>dE fl t v
 | _=> []
def EX (L:Bs):Bs:=L.flatMap Ir
def tG (L v:Bs):Prop:=v=EX L
def xv (L:Bs):Prop:=∃l:List (Int × Int × Bs),L=l.map (fun r=>xu r.1 r.2.1 r.2.2)∧l.length≤10∧∀r∈l,jd r.1 r.2.1 r.2.2∧r.2.2.length≤1000
def EY (b:Bs):Prop:=∃l:List Int,b=iV l∧l.length≤16∧l.all dD=true
def fQ (l:List Int):Bs:=l.flatMap fun z=>aL 2 z
def fv (b:Bs):Bs:=bif b.isEmpty then [] else aL 1 2++aL 1 b.length++fQ (rz b)
structure AtV where
 o:Int
 p:List Int
 h:Int
 m:Int
 hm:Bool
 deriving DecidableEq
def AtV.cells (a:AtV):List TV:= [.val (.int .i64 a.o), .vec 1 (iV a.p) .none, .val (.int .u32 a.h), .val (.int .i64 a.m), .val (.bool a.hm)]
def dM (a:AtV):Bool:=decide (0≤a.o)&&(decide (a.o≤2)&&(mK a.h&&(decide (a.p.length≤16)&&(a.p.all dD&&(bif a.hm then decide (0≤a.m)&&decide (a.m≤4294967295) else decide (a.m=0))))))
def xw (l:List TV) (ok:Bool):Prop:=∃a:AtV,l=a.cells∧a.p.length≤9223372036854775807∧ok=dM a
abbrev zd:=94
abbrev mM:=126
abbrev mN:=128
abbrev pI:=65
abbrev ze:=97
abbrev mO:=17
def EZ:aP:=fun _ ys T K=>match ys with
 | [.vec 1 l _, .fn (.func 95) [] []]=>jZ l∧bif mL l then ∀z:Nat,K (.val (.int .i64 (Int.ofNat z))) T else K (.val (.int .i64 (-1))) T
 | _=>ar 84 default ys
def Cu:aP:=fun _ ys T K=>match ys with
 | [.vec 1 l _, .fn (.func 95) [] []]=>jZ l∧K (.val (.bool (mL l))) T
 | _=>ar 84 default ys
def xx:aP:=fun _ ys T K=>match ys with
 | [.agg [.val (.int .i64 fl), .val (.int .i64 t), .vec 1 v .none]]=>EV fl t v∧K (.vec 1 (EW fl t v) .none) T
 | _=>ar 84 default ys
def Cv:aP:=fun _ ys T K=>match ys with
 | [.vec 3 l _]=>xv l∧∀v:Bs,tG l v→K (.vec 1 v .none) T
 | _=>ar 84 default ys
def Cw:aP:=fun _ ys T K=>match ys with
 | [.vec 1 l _]=>EY l∧K (.vec 1 (fv l) .none) T
 | _=>ar 84 default ys
def rA (ok:Bool):aP:=fun _ ys T K=>match ys with
 | [.agg l]=>xw l ok∧K (.val (.bool ok)) T
 | _=>ar 84 default ys
def E0:aP:=fun _ ys T K=>match ys with
 | [.vec 1 l _, .vec 1 m _]=>(jZ l∧jZ m)∧K (.val (.bool (vK l m))) T
 | _=>ar 84 default ys
def zf:List Nat:= [3,13,14,15]
def tH (B l:Bs) (j:Int):List TV:= [.vec 1 B .none, .vec 1 l .none, .val (.int .i64 l.length), .val (.int .i64 j)]
def H0 (B0 B l:Bs) (c0:Code):Nat→Option (bD × Code):=b6 [(0,cO 24 zf [] (tH B0 l 0) ⟨[], []⟩ fun K=>K .normal (ak 24 zf (tH B l l.length)) ⟨[], []⟩ [],c0)]
def zg:List Nat:= [3,6,7,8]
def vL (B L:Bs) (j:Int):List TV:= [.vec 1 B (.tail 0 B.length), .vec 3 L .none, .val (.int .i64 L.length), .val (.int .i64 j)]
def H2 (B L:Bs) (c0:Code):Nat→Option (bD × Code):=b6 [(0,Co 18 zg [(3,1)] [6] (vL [] L 0) ⟨[], [(0,1,true)]⟩ fun K=>K .normal (ak 18 zg (vL B L L.length)) ⟨[], [(B.length,1,true)]⟩ [],c0)]
theorem Hc (l:Bs) (Q:TV→VT→Prop):aq Try.prog ae (ax [(nR,EZ)]) aF 300 az 0 zd [.vec 1 l .none, .fn (.func 95) [] []] ⟨[], []⟩ Q=
 (jZ (l)∧
 (bif mL l
 then (∀z:Nat,Q (.val (.bool true)) ⟨[], []⟩)
 else Q (.val (.bool false)) ⟨[], []⟩)):=by kernel_rfl
theorem Hd (B0 B l:Bs) (Q:TV→VT→Prop):aq Try.prog ae (ax [(ru,hU .i64 1),(je,hU .i64 2)]) aF 300 (H0 B0 B l (am Try.prog mM 0)) 0 mM [.vec 1 l .none] ⟨[], []⟩ Q=
 (bif aT BinOp.eql (an (Value.int IntKind.i64 (↑(List.length l):Int)) (Value.int IntKind.i64 (0:Int)))
 then Q (.val (.slice .none 0 0)) ⟨[], []⟩
 else ((@Eq (IntKind) .i64 .i64)∧
 (ef 2 1∧
 ((@Eq (IntKind) .i64 .i64)∧
 ((ef ((↑(List.length l):Int)) 1∧
 nT (aL (1:Int) (2:Int)))∧
 ((am Try.prog mM (0:Nat)=am Try.prog mM (0:Nat))∧
 (((@Eq (Option Nat) .none .none)∧
 ((@Eq (Nat) 0 0)∧
 ((@Eq (List Nat) [] [])∧
 (True  ∧
 ((@Eq (VT) ⟨[], []⟩ ⟨[], []⟩)∧
 ((@Eq (Bool) true true)∧
 (@Eq (List TV) [(.vec 1 (aL (1:Int) (2:Int)++aL (1:Int) (↑(List.length l):Int)) .none),(.vec 1 (l) .none),(.val (.int .i64 ((↑(List.length l):Int)))),(.val (.int .i64 0))] [(.vec 1 (B0) .none),(.vec 1 (l) .none),(.val (.int .i64 ((↑(List.length l):Int)))),(.val (.int .i64 0))])))))))∧
 Q (.vec 1 (B) .none) ⟨[], []⟩))))))):=by kernel_rfl
theorem zh (B l:Bs) (z:Int) (j:Nat) (Q:Exit→List TV→VT→List Nat→Nat→Prop):vx Try.prog ae (ax [(ru,hU .i64 1),(je,hU .i64 2)]) (aG [(17, .elt [.val (.int .i64 z)],none)]) 300 az none 0 (bQ Try.prog mM 0) (ak 24 zf (tH B l j)) ⟨[], []⟩ [] (ct zf Q)=
 (bif decide ((↑j:Int)<(↑(List.length l):Int))
 then (aW Try.prog (fun _=> .none) (.indexAddr 30 (.tmp 13) (.tmp 15)) [(13,(.vec 1 (l) .none)),(15,(.val (.int .i64 ((↑j:Int)))))] (.elt [(.val (.int .i64 (z)))])∧
 ((@Eq (IntKind) .i64 .i64)∧
 ((ef (z) 2∧
 nT (B))∧
 Q .normal [(.vec 1 (B++aL (2:Int) z) .none),(.vec 1 (l) .none),(.val (.int .i64 ((↑(List.length l):Int)))),(.val (.int .i64 (IntKind.wrap IntKind.i64 ((↑j:Int)+(1:Int)))))] ⟨[], []⟩ [] 24)))
 else Q (.exit 0) [(.vec 1 (B) .none),(.vec 1 (l) .none),(.val (.int .i64 ((↑(List.length l):Int)))),(.val (.int .i64 ((↑j:Int))))] ⟨[], []⟩ [] 24):=by kernel_rfl
theorem He (B L:Bs) (Q:TV→VT→Prop):aq Try.prog ae aS aF 300 (H2 B L (am Try.prog mN 0)) 0 mN [.vec 3 L .none] ⟨[], []⟩ Q=
 ((am Try.prog mN (0:Nat)=am Try.prog mN (0:Nat))∧
 (((@Eq (Option Nat) .none .none)∧
 ((@Eq (Nat) 0 0)∧
 ((@Eq (List Nat) [] [])∧
 (((@Eq (Option TV) (.some (.val (.slice .none 0 0))) (.some (.val (.slice .none 0 0))))∧
 True)∧
 ((@Eq (VT) ⟨[], [(0,(1,true))]⟩ ⟨[], [(0,(1,true))]⟩)∧
 ((@Eq (Bool) true true)∧
 (@Eq (List TV) [(.vec 1 [] (.tail 0 0)),(.vec 3 (L) .none),(.val (.int .i64 ((↑(List.length L):Int)))),(.val (.int .i64 0))] [(.vec 1 [] (.tail 0 0)),(.vec 3 (L) .none),(.val (.int .i64 ((↑(List.length L):Int)))),(.val (.int .i64 0))])))))))∧
 Q (.vec 1 (B) (.tail 0 (List.length B))) ⟨[], [((List.length B),(1,true))]⟩)):=by kernel_rfl
theorem zi (B B2 L v:Bs) (fl t:Int) (j:Nat) (Q:Exit→List TV→VT→List Nat→Nat→Prop):vx Try.prog ae (ax [(oG,xx)]) (aG [(999999, .dead,none),(10, .elt (xu fl t v),none),(15, .vec 1 B2 (.tail 0 B2.length),some fun T=>{T with tails:= [(B2.length,1,true)]})]) 300 az none 0 (bQ Try.prog mN 0) (ak 18 zg (vL B L j)) ⟨[], [(B.length,1,true)]⟩ [] (ct zg Q)=
 (bif decide ((↑j:Int)<(↑(List.length L):Int))
 then (aW Try.prog (fun _=> .none) (.indexAddr 165 (.tmp 6) (.tmp 8)) [(6,(.vec 3 (L) .none)),(8,(.val (.int .i64 ((↑j:Int)))))] (.elt [(.val (.int .i64 (fl))),(.val (.int .i64 (t))),(.vec 1 (v) .none)])∧
 (EV (fl) (t) (v)∧
 (aZ Try.prog (fun _=> .none) 0 ⟨[(.cells [(.val (.int .i64 (fl))),(.val (.int .i64 (t))),(.vec 1 (v) .none)])], [((List.length B),(1,true))]⟩ (.call ⟨(.builtin .append), #[(.tmp 12),(.tmp 14)], #[108,108]⟩) [(12,(.vec 1 (B) (.tail 0 (List.length B)))),(14,(.vec 1 (EW fl t v) .none))] (.vec 1 (B2) (.tail 0 (List.length B2))) ⟨[(.cells [(.val (.int .i64 (fl))),(.val (.int .i64 (t))),(.vec 1 (v) .none)])], [((List.length B2),(1,true))]⟩∧
 Q .normal [(.vec 1 (B2) (.tail 0 (List.length B2))),(.vec 3 (L) .none),(.val (.int .i64 ((↑(List.length L):Int)))),(.val (.int .i64 (IntKind.wrap IntKind.i64 ((↑j:Int)+(1:Int)))))] ⟨[(.cells [(.val (.int .i64 (fl))),(.val (.int .i64 (t))),(.vec 1 (v) .none)])], [((List.length B2),(1,true))]⟩ [] 18)))
 else Q (.exit 0) [(.vec 1 (B) (.tail 0 (List.length B))),(.vec 3 (L) .none),(.val (.int .i64 ((↑(List.length L):Int)))),(.val (.int .i64 ((↑j:Int))))] ⟨[], [((List.length B),(1,true))]⟩ [] 18):=by kernel_rfl
theorem Hf (o h m:Int) (hm:Bool) (p:Bs) (Q:TV→VT→Prop):aq Try.prog ae (ax [(zd,Cu),(xr,xt)]) (aG [(999998, .dead,none)]) 300 az 0 pI [.agg [.val (.int .i64 o), .vec 1 p .none, .val (.int .u32 h), .val (.int .i64 m), .val (.bool hm)]] ⟨[], []⟩ Q=
 (bif decide (o<(0:Int))
 then Q (.val (.bool false)) ⟨[(.cells [(.val (.int .i64 (o))),(.vec 1 (p) .none),(.val (.int .u32 (h))),(.val (.int .i64 (m))),(.val (.bool (hm)))])], []⟩
 else (bif decide (o>(2:Int))
 then (bif decide (o>(2:Int))
 then Q (.val (.bool false)) ⟨[(.cells [(.val (.int .i64 (o))),(.vec 1 (p) .none),(.val (.int .u32 (h))),(.val (.int .i64 (m))),(.val (.bool (hm)))])], []⟩
 else (bif decide ((↑(List.length p):Int)>(16:Int))
 then (bif decide ((↑(List.length p):Int)>(16:Int))
 then Q (.val (.bool false)) ⟨[(.cells [(.val (.int .i64 (o))),(.vec 1 (p) .none),(.val (.int .u32 (h))),(.val (.int .i64 (m))),(.val (.bool (hm)))])], []⟩
 else (bif !hm
 then Q (.val (.bool (aT BinOp.eql (an (Value.int IntKind.i64 m) (Value.int IntKind.i64 (0:Int)))))) ⟨[(.cells [(.val (.int .i64 (o))),(.vec 1 (p) .none),(.val (.int .u32 (h))),(.val (.int .i64 (m))),(.val (.bool (hm)))])], []⟩
 else (bif decide (m≥(0:Int))
 then Q (.val (.bool (decide (m≤(4294967295:Int))))) ⟨[(.cells [(.val (.int .i64 (o))),(.vec 1 (p) .none),(.val (.int .u32 (h))),(.val (.int .i64 (m))),(.val (.bool (hm)))])], []⟩
 else Q (.val (.bool false)) ⟨[(.cells [(.val (.int .i64 (o))),(.vec 1 (p) .none),(.val (.int .u32 (h))),(.val (.int .i64 (m))),(.val (.bool (hm)))])], []⟩)))
 else (jZ (p)∧
 (bif mL p
 then Q (.val (.bool false)) ⟨[(.cells [(.val (.int .i64 (o))),(.vec 1 (p) .none),(.val (.int .u32 (h))),(.val (.int .i64 (m))),(.val (.bool (hm)))])], []⟩
 else (bif !hm
 then Q (.val (.bool (aT BinOp.eql (an (Value.int IntKind.i64 m) (Value.int IntKind.i64 (0:Int)))))) ⟨[(.cells [(.val (.int .i64 (o))),(.vec 1 (p) .none),(.val (.int .u32 (h))),(.val (.int .i64 (m))),(.val (.bool (hm)))])], []⟩
 else (bif decide (m≥(0:Int))
 then Q (.val (.bool (decide (m≤(4294967295:Int))))) ⟨[(.cells [(.val (.int .i64 (o))),(.vec 1 (p) .none),(.val (.int .u32 (h))),(.val (.int .i64 (m))),(.val (.bool (hm)))])], []⟩
 else Q (.val (.bool false)) ⟨[(.cells [(.val (.int .i64 (o))),(.vec 1 (p) .none),(.val (.int .u32 (h))),(.val (.int .i64 (m))),(.val (.bool (hm)))])], []⟩))))))
 else (bif !mK h
 then Q (.val (.bool false)) ⟨[(.cells [(.val (.int .i64 (o))),(.vec 1 (p) .none),(.val (.int .u32 (h))),(.val (.int .i64 (m))),(.val (.bool (hm)))])], []⟩
 else (bif decide ((↑(List.length p):Int)>(16:Int))
 then (bif decide ((↑(List.length p):Int)>(16:Int))
 then Q (.val (.bool false)) ⟨[(.cells [(.val (.int .i64 (o))),(.vec 1 (p) .none),(.val (.int .u32 (h))),(.val (.int .i64 (m))),(.val (.bool (hm)))])], []⟩
 else (bif !hm
 then Q (.val (.bool (aT BinOp.eql (an (Value.int IntKind.i64 m) (Value.int IntKind.i64 (0:Int)))))) ⟨[(.cells [(.val (.int .i64 (o))),(.vec 1 (p) .none),(.val (.int .u32 (h))),(.val (.int .i64 (m))),(.val (.bool (hm)))])], []⟩
 else (bif decide (m≥(0:Int))
 then Q (.val (.bool (decide (m≤(4294967295:Int))))) ⟨[(.cells [(.val (.int .i64 (o))),(.vec 1 (p) .none),(.val (.int .u32 (h))),(.val (.int .i64 (m))),(.val (.bool (hm)))])], []⟩
 else Q (.val (.bool false)) ⟨[(.cells [(.val (.int .i64 (o))),(.vec 1 (p) .none),(.val (.int .u32 (h))),(.val (.int .i64 (m))),(.val (.bool (hm)))])], []⟩)))
 else (jZ (p)∧
 (bif mL p
 then Q (.val (.bool false)) ⟨[(.cells [(.val (.int .i64 (o))),(.vec 1 (p) .none),(.val (.int .u32 (h))),(.val (.int .i64 (m))),(.val (.bool (hm)))])], []⟩
 else (bif !hm
 then Q (.val (.bool (aT BinOp.eql (an (Value.int IntKind.i64 m) (Value.int IntKind.i64 (0:Int)))))) ⟨[(.cells [(.val (.int .i64 (o))),(.vec 1 (p) .none),(.val (.int .u32 (h))),(.val (.int .i64 (m))),(.val (.bool (hm)))])], []⟩
 else (bif decide (m≥(0:Int))
 then Q (.val (.bool (decide (m≤(4294967295:Int))))) ⟨[(.cells [(.val (.int .i64 (o))),(.vec 1 (p) .none),(.val (.int .u32 (h))),(.val (.int .i64 (m))),(.val (.bool (hm)))])], []⟩
 else Q (.val (.bool false)) ⟨[(.cells [(.val (.int .i64 (o))),(.vec 1 (p) .none),(.val (.int .u32 (h))),(.val (.int .i64 (m))),(.val (.bool (hm)))])], []⟩)))))))):=by kernel_rfl
theorem Hg (o h m:Int) (hm ok:Bool) (p L4:Bs) (Q:TV→VT→Prop):aq Try.prog ae (ax [(pI,rA ok),(ru,hU .i64 1),(oH,hU .u32 4),(mM,Cw),(mN,Cv)]) (aG [(999998, .dead,none),(29, .vec 3 L4 (.tail 0 1),some fun T=>{T with tails:= [(1,3,false)]})]) 300 az 0 ze [.agg [.val (.int .i64 o), .vec 1 p .none, .val (.int .u32 h), .val (.int .i64 m), .val (.bool hm)]] ⟨[], []⟩ Q=
 (xw [(.val (.int .i64 (o))),(.vec 1 (p) .none),(.val (.int .u32 (h))),(.val (.int .i64 (m))),(.val (.bool (hm)))] (ok)∧
 (bif !ok
 then Q (.val (.slice .none 0 0)) ⟨[(.cells [(.val (.int .i64 (o))),(.vec 1 (p) .none),(.val (.int .u32 (h))),(.val (.int .i64 (m))),(.val (.bool (hm)))])], []⟩
 else ((@Eq (IntKind) .i64 .i64)∧
 (ef (o) 1∧
 (((@Eq (Option TV) (.some (.val (.int .u32 (h)))) (.some (.val (.int .u32 (h)))))∧
 ((@Eq (Option TV) (.some (.vec 1 (p) .none)) (.some (.vec 1 (p) .none)))∧
 ((@Eq (Option TV) (.some (.val (.int .i64 (o)))) (.some (.val (.int .i64 (o)))))∧
 True)))∧
 (EY (p)∧
 (((@Eq (Option TV) (.some (.val (.int .u32 (h)))) (.some (.val (.int .u32 (h)))))∧
 ((@Eq (Option TV) (.some (.vec 1 (p) .none)) (.some (.vec 1 (p) .none)))∧
 ((@Eq (Option TV) (.some (.val (.int .i64 (o)))) (.some (.val (.int .i64 (o)))))∧
 True)))∧
 ((@Eq (IntKind) .u32 .u32)∧
 (ef (h) 4∧
 (bif hm
 then ((@Eq (IntKind) .u32 .u32)∧
 (ef (IntKind.wrap IntKind.u32 m) 4∧
 (aZ Try.prog (fun _=> .none) 0 ⟨[(.cells [(.val (.int .i64 (o))),(.vec 1 (p) .none),(.val (.int .u32 (h))),(.val (.int .i64 (m))),(.val (.bool (hm)))])], []⟩ (.call ⟨(.builtin .append), #[(.tmp 22),(.tmp 28)], #[165,165]⟩) [(22,(.vec 3 [[(.val (.int .i64 64)),(.val (.int .i64 1)),(.vec 1 (aL (1:Int) o) .none)], [(.val (.int .i64 64)),(.val (.int .i64 2)),(.vec 1 (fv p) .none)], [(.val (.int .i64 64)),(.val (.int .i64 3)),(.vec 1 (aL (4:Int) h) .none)]] .full)),(28,(.vec 3 [[(.val (.int .i64 128)),(.val (.int .i64 4)),(.vec 1 (aL (4:Int) (IntKind.wrap IntKind.u32 m)) .none)]] .full))] (.vec 3 (L4) (.tail 0 1)) ⟨[(.cells [(.val (.int .i64 (o))),(.vec 1 (p) .none),(.val (.int .u32 (h))),(.val (.int .i64 (m))),(.val (.bool (hm)))])], [(1,(3,false))]⟩∧
 (xv (L4)∧
 (∀v:Bs,(tG (L4) (v)→Q (.vec 1 (v) .none) ⟨[(.cells [(.val (.int .i64 (o))),(.vec 1 (p) .none),(.val (.int .u32 (h))),(.val (.int .i64 (m))),(.val (.bool (hm)))])], [(1,(3,false))]⟩))))))
 else (xv [[(.val (.int .i64 64)),(.val (.int .i64 1)),(.vec 1 (aL (1:Int) o) .none)], [(.val (.int .i64 64)),(.val (.int .i64 2)),(.vec 1 (fv p) .none)], [(.val (.int .i64 64)),(.val (.int .i64 3)),(.vec 1 (aL (4:Int) h) .none)]]∧
 (∀v:Bs,(tG [[(.val (.int .i64 64)),(.val (.int .i64 1)),(.vec 1 (aL (1:Int) o) .none)], [(.val (.int .i64 64)),(.val (.int .i64 2)),(.vec 1 (fv p) .none)], [(.val (.int .i64 64)),(.val (.int .i64 3)),(.vec 1 (aL (4:Int) h) .none)]] (v)→Q (.vec 1 (v) .none) ⟨[(.cells [(.val (.int .i64 (o))),(.vec 1 (p) .none),(.val (.int .u32 (h))),(.val (.int .i64 (m))),(.val (.bool (hm)))])], []⟩))))))))))))):=by kernel_rfl
theorem Hh (o h m o2 h2 m2:Int) (hm hm2:Bool) (p p2:Bs) (Q:TV→VT→Prop):aq Try.prog ae (ax [(nS,E0)]) (aG [(999998, .dead,none)]) 300 az 0 mO [.agg [.val (.int .i64 o), .vec 1 p .none, .val (.int .u32 h), .val (.int .i64 m), .val (.bool hm)], .agg [.val (.int .i64 o2), .vec 1 p2 .none, .val (.int .u32 h2), .val (.int .i64 m2), .val (.bool hm2)]] ⟨[], []⟩ Q=
 (bif aT BinOp.eql (an (Value.int IntKind.i64 o) (Value.int IntKind.i64 o2))
 then (bif aT BinOp.eql (an (Value.int IntKind.u32 h) (Value.int IntKind.u32 h2))
 then (bif aT BinOp.eql (an (Value.int IntKind.i64 m) (Value.int IntKind.i64 m2))
 then (bif aT BinOp.eql (an (Value.bool hm) (Value.bool hm2))
 then ((jZ (p)∧
 jZ (p2))∧
 Q (.val (.bool (vK p p2))) ⟨[(.cells [(.val (.int .i64 (o))),(.vec 1 (p) .none),(.val (.int .u32 (h))),(.val (.int .i64 (m))),(.val (.bool (hm)))]),(.cells [(.val (.int .i64 (o2))),(.vec 1 (p2) .none),(.val (.int .u32 (h2))),(.val (.int .i64 (m2))),(.val (.bool (hm2)))])], []⟩)
 else Q (.val (.bool false)) ⟨[(.cells [(.val (.int .i64 (o))),(.vec 1 (p) .none),(.val (.int .u32 (h))),(.val (.int .i64 (m))),(.val (.bool (hm)))]),(.cells [(.val (.int .i64 (o2))),(.vec 1 (p2) .none),(.val (.int .u32 (h2))),(.val (.int .i64 (m2))),(.val (.bool (hm2)))])], []⟩)
 else Q (.val (.bool false)) ⟨[(.cells [(.val (.int .i64 (o))),(.vec 1 (p) .none),(.val (.int .u32 (h))),(.val (.int .i64 (m))),(.val (.bool (hm)))]),(.cells [(.val (.int .i64 (o2))),(.vec 1 (p2) .none),(.val (.int .u32 (h2))),(.val (.int .i64 (m2))),(.val (.bool (hm2)))])], []⟩)
 else Q (.val (.bool false)) ⟨[(.cells [(.val (.int .i64 (o))),(.vec 1 (p) .none),(.val (.int .u32 (h))),(.val (.int .i64 (m))),(.val (.bool (hm)))]),(.cells [(.val (.int .i64 (o2))),(.vec 1 (p2) .none),(.val (.int .u32 (h2))),(.val (.int .i64 (m2))),(.val (.bool (hm2)))])], []⟩)
 else Q (.val (.bool false)) ⟨[(.cells [(.val (.int .i64 (o))),(.vec 1 (p) .none),(.val (.int .u32 (h))),(.val (.int .i64 (m))),(.val (.bool (hm)))]),(.cells [(.val (.int .i64 (o2))),(.vec 1 (p2) .none),(.val (.int .u32 (h2))),(.val (.int .i64 (m2))),(.val (.bool (hm2)))])], []⟩):=by kernel_rfl
end
--MbF
section
open Go.RowKit

theorem hZ (l:List Int):rz (iV l)=l:=by
 unfold rz iV
 rw [List.map_map]
 exact (List.map_congr_left fun z _=>rfl).trans (List.map_id _)
theorem zj {l:List Int} (hn:l.length≤9223372036854775807) (K:TV→VT→Prop) (hk:bif mL (iV l) then ∀z:Nat,K (.val (.int .i64 (Int.ofNat z))) ⟨[], []⟩ else K (.val (.int .i64 (-1))) ⟨[], []⟩):VCx Try.prog ae 0 nR [.vec 1 (iV l) .none, .fn (.func 95) [] []] ⟨[], []⟩ K:=by
 refine ai ac aa ah (DC hn) (Ha (iV l) (l.all dD) _) ⟨rfl,⟨rfl,rfl,rfl,trivial,rfl,rfl,rfl⟩,fun z=> ?_⟩
 unfold mL at hk
 rw [hZ] at hk
 cases h:l.all dD<;>rw [h] at hk
 ·exact hk z
 ·exact hk
theorem E1 {l:List Int} (hn:l.length≤9223372036854775807):VCx Try.prog ae 0 zd [.vec 1 (iV l) .none, .fn (.func 95) [] []] ⟨[], []⟩ fun x T' =>x= .val (.bool (mL (iV l)))∧T' =⟨[], []⟩:=by
 have hS:aY Try.prog ae (ax [(nR,EZ)]):=aA fun p hp=>by
  obtain rfl:=List.mem_singleton.1 hp
  intro ro ys T K hw
  simp only at hw
  unfold EZ at hw
  split at hw
  ·rename_i b tok
   obtain ⟨⟨l,rfl,hn⟩,hk⟩:=hw
   cases h:mL (iV l) with
   | false=>
    rw [h,cond_false] at hk
    exact VCx.loosePure ap (y:= .val (.int .i64 (-1))) (zj hn _ (by rw [h];exact ⟨rfl,rfl⟩)) (by simp [bH]) (by simp [av,TV.ren,dL,Tok.ren]) (fun _ _=>rfl) hk
   | true=>
    rw [h,cond_true] at hk
    exact VCx.looseAny ap (Y:=fun y=>∃z:Nat,y= .val (.int .i64 (Int.ofNat z))) (zj hn _ (by rw [h,cond_true];exact fun z=>⟨⟨z,rfl⟩,rfl⟩)) (by simp [bH]) (by simp [av,TV.ren,dL,Tok.ren]) (fun y ⟨z,hz⟩ _ _=>by rw [hz];rfl) (fun y ⟨z,hz⟩=>by rw [hz];exact hk z)
  ·exact hw.elim
 refine VCx.keepQ 0 0 (Nat.le_refl _) (Nat.le_refl _) (ai ac aa hS ag (Hc (iV l) _) ⟨⟨l,rfl,hn⟩,bp (fun h _=>⟨by rw [h];rfl,rfl⟩) (fun h=>⟨by rw [h];rfl,rfl⟩)⟩)
theorem E2:∀ro ys T K,Cu ro ys T K→VCx Try.prog ae ro zd ys T K:=by
 intro ro ys T K hw
 unfold Cu at hw
 split at hw
 ·obtain ⟨⟨l,rfl,hn⟩,hk⟩:=hw
  exact VCx.loosePure ap (E1 hn) (by simp [bH]) (by simp [av,TV.ren,dL,Tok.ren]) (fun _ _=>rfl) hk
 ·exact hw.elim
theorem BH {l:List Int} {j:Nat} (h:j<l.length):fQ (l.take (j+1))=fQ (l.take j)++aL 2 l[j]:=by
 unfold fQ
 rw [List.take_add_one,List.getElem?_eq_getElem h,List.flatMap_append]
 simp
theorem iK:∀l:List Int,(fQ l).length=2*l.length
 | []=>rfl
 | z::l=>by
  have:=iK l
  simp only [fQ,List.flatMap_cons,List.length_append,List.length_cons,bN] at this ⊢
  omega
theorem kD {a b:Bs} (h:IsB a) (k:IsB b) (hl:a.length+b.length≤1000000):IsB (a++b):=by
 obtain ⟨⟨l,rfl,hz⟩,_⟩:=h
 obtain ⟨⟨m,rfl,hy⟩,_⟩:=k
 refine ⟨⟨l++m,by simp [bV],fun z h=> ?_⟩,by rw [List.length_append];exact hl⟩
 rcases List.mem_append.1 h with h | h
 ·exact hz z h
 ·exact hy z h
theorem tI:∀{l:List Int},l.length≤100→IsB (fQ l)
 | [],_=> .nil
 | z::l,h=>by
  have h1:=tI (l:=l) (by simp only [List.length_cons] at h;omega)
  have h2:=iK l
  exact kD (b:=fQ l) (cJ (k:=2) z (by decide)) h1 (by rw [bN,h2];simp only [List.length_cons] at h;have:Int.toNat 2=2:=rfl;omega)
def gp (n:Int):Bs:=aL 1 2++aL 1 n
theorem zk (n:Int):IsB (gp n):=kD (cJ 2 (by decide)) (cJ n (by decide)) (by rw [bN,bN];decide)
theorem ns (n:Int):(gp n).length=2:=by unfold gp;rw [List.length_append,bN,bN];rfl
theorem zl {l:List Int} (h:l.length≤16):IsB (gp l.length++fQ l):=kD (zk _) (tI (by omega)) (by rw [ns,iK];omega)
theorem BI:aY Try.prog ae (ax [(ru,hU .i64 1),(je,hU .i64 2)]):=aA fun p hp=>by
 rcases List.mem_cons.1 hp with rfl | hp;exact Ct
 obtain rfl:=List.mem_singleton.1 hp;exact EQ
theorem DD {l:List Int} (hn:l.length≤16) (ha:l.all dD=true):gH Try.prog ae (H0 (gp l.length) (gp l.length++fQ l) (iV l) (am Try.prog mM 0)):=bf fun p hp=>by
  obtain rfl:=List.mem_singleton.1 hp
  refine bq fun K hK=> ?_
  have htk:∀j,IsB (gp l.length++fQ (l.take j)):=fun j=>kD (zk _) (tI (by rw [List.length_take];omega)) (by rw [ns,iK,List.length_take];omega)
  have h:=Dd (P:=Try.prog) (G:=ae) (f:=mM) (id:=0) (by kernel_rfl) 24 zf (fun j=>tH (gp l.length++fQ (l.take j.toNat)) (iV l) j) ⟨[], []⟩ l.length (fun e vs T=>e= .normal∧vs=tH (gp l.length++fQ l) (iV l) (iV l).length∧T=⟨[], []⟩) (fun j hj=> ?_) K (fun e vs T ⟨h1,h2,h3⟩=>by subst h1 h2 h3;exact hK)
  · have e:gp l.length++fQ (l.take ((0:Nat):Int).toNat)=gp l.length:=List.append_nil _
    simp only [e] at h
    exact h
  · by_cases hlt:j<l.length
    · have hat:(iV l)[((j:Nat):Int).toNat]?=some (iT l[j]):=by rw [Int.toNat_natCast,iV,List.getElem?_map,List.getElem?_eq_getElem hlt];rfl
      have hz:=List.all_eq_true.1 ha _ (List.getElem_mem hlt)
      simp only [dD,Bool.and_eq_true,decide_eq_true_eq] at hz
      refine bh ac aa BI ag (zh (gp l.length++fQ (l.take j)) (iV l) l[j] j _) ?_
      refine be (decide_eq_true (by rw [eR];omega)) ⟨lv rfl rfl (by omega) hat,rfl,⟨⟨⟨by omega,by omega⟩,by decide,by decide⟩,htk j,fun h=> ?_⟩,rfl,rfl,hlt, .inl ⟨rfl, ?_⟩⟩
      · have:=congrArg List.length h
        rw [List.length_append,ns] at this;simp at this
      · rw [sc hlt (by omega)]
        show _=tH (gp l.length++fQ (l.take (j+1))) (iV l) _
        rw [BH hlt,←List.append_assoc]
        rfl
    · have hj2:j=l.length:=by omega
      subst hj2
      refine bh ac aa BI ag (zh (gp l.length++fQ (l.take l.length)) (iV l) 0 l.length _) ?_
      exact aI (decide_eq_false (by rw [eR];omega)) ⟨rfl,rfl,rfl,by simp only [tH,eR,List.take_length],rfl⟩
theorem E3 {l:List Int} (hn:l.length≤16) (ha:l.all dD=true):VCx Try.prog ae 0 mM [.vec 1 (iV l) .none] ⟨[], []⟩ fun x T' =>x= .vec 1 (fv (iV l)) .none∧T' =⟨[], []⟩:=by
 refine VCx.toLe (Q:=fun T' =>T' =⟨[], []⟩) (VCx.keepQ 0 0 (Nat.le_refl _) (Nat.le_refl _) (ai ac aa BI (DD hn ha) (Hd (gp l.length) (gp l.length++fQ l) (iV l) _) ?_))
 rw [rq,eR]
 cases l with
 | nil=>exact be rfl ⟨.nil 1,rfl⟩
 | cons z l=>
  refine aI (decide_eq_false (by simp only [List.length_cons];omega)) ⟨rfl,⟨⟨by decide,by decide⟩,by decide,by decide⟩,rfl,⟨⟨⟨by omega,by omega⟩,by decide,by decide⟩,cJ 2 (by decide),fun h=> ?_⟩,rfl,⟨rfl,rfl,rfl,trivial,rfl,rfl,rfl⟩, ?_,rfl⟩
  ·have:=congrArg List.length h;rw [bN] at this;cases this
  ·have e:fv (iV (z::l))=gp (z::l).length++fQ (z::l):=by
    unfold fv;rw [hZ,eR];rfl
   rw [e]
   simp only [TV.ren,(zl hn).ren,Tok.ren]
   exact .refl _
theorem zm {l:List Int} (hn:l.length≤16):IsB (fv (iV l))∧(fv (iV l)).length≤34:=by
 cases l with
 | nil=>exact ⟨.nil,Nat.zero_le _⟩
 | cons z l=>
  have e:fv (iV (z::l))=gp (z::l).length++fQ (z::l):=by
   unfold fv;rw [hZ,eR];rfl
  rw [e]
  exact ⟨zl hn,by rw [List.length_append,ns,iK];omega⟩
theorem E4:∀ro ys T K,Cw ro ys T K→VCx Try.prog ae ro mM ys T K:=by
 intro ro ys T K hw
 unfold Cw at hw
 split at hw
 ·obtain ⟨⟨l,rfl,hn,ha⟩,hk⟩:=hw
  exact VCx.loosePure ap (E3 hn ha) (by simp [bH]) (by simp [av,TV.ren,dL,Tok.ren]) (fun f g=>by simp only [TV.ren,(zm hn).1.ren,Tok.ren]) hk
 ·exact hw.elim
end
--MbG
section
open Go.RowKit

abbrev lV:=Int × Int × Bs
def fw (r:lV):List TV:=xu r.1 r.2.1 r.2.2
def ei (l:List lV):Bs:=l.flatMap fun r=>dE r.1 r.2.1 r.2.2
theorem nt:∀l:List lV,EX (l.map fw)=ei l
 | []=>rfl
 | r::l=>by
  have:=nt l
  simp only [EX,ei,List.map_cons,List.flatMap_cons] at this ⊢
  rw [this];rfl
theorem vM {l:List lV} (h:∀r∈l,jd r.1 r.2.1 r.2.2∧r.2.2.length≤1000) (f g:Nat→Option Nat):bu f g (l.map fw)=l.map fw:=by
 induction l with
 | nil=>rfl
 | cons r l ih=>
  have hb:=(h r List.mem_cons_self).1.2.2.1
  rw [List.map_cons,bu,ih (fun q hq=>h q (List.mem_cons_of_mem _ hq))]
  simp only [fw,xu,av,TV.ren,hb.ren,Tok.ren]
theorem qH (fl t:Int) (v:Bs):(dE fl t v).length≤v.length+4:=by
 unfold dE rt
 have:=(tA fl v).2
 cases kC fl<;>simp only [cond_true,cond_false,List.length_append,List.length_take,List.length_cons,List.length_nil]<;>omega
theorem nu:∀{l:List lV},(∀r∈l,jd r.1 r.2.1 r.2.2∧r.2.2.length≤1000)→(ei l).length≤1004*l.length
 | [],_=>Nat.zero_le _
 | r::l,h=>by
  have h1:=nu (l:=l) fun q hq=>h q (List.mem_cons_of_mem _ hq)
  have h2:=(h r List.mem_cons_self).2
  have h3:=qH r.1 r.2.1 r.2.2
  simp only [ei,List.flatMap_cons,List.length_append,List.length_cons] at h1 ⊢
  omega
theorem kE:∀{l:List lV},(∀r∈l,jd r.1 r.2.1 r.2.2∧r.2.2.length≤1000)→l.length≤10→IsB (ei l)
 | [],_,_=> .nil
 | r::l,h,hl=>by
  have hq:∀q∈l,jd q.1 q.2.1 q.2.2∧q.2.2.length≤1000:=fun q hq=>h q (List.mem_cons_of_mem _ hq)
  simp only [List.length_cons] at hl
  have h1:=kE (l:=l) hq (by omega)
  obtain ⟨⟨_,_,hb,hv⟩,h2⟩:=h r List.mem_cons_self
  have h3:=qH r.1 r.2.1 r.2.2
  have h4:=nu hq
  exact kD (b:=ei l) (pG (fl:=r.1) (t:=r.2.1) hb hv) h1 (by show (dE r.1 r.2.1 r.2.2).length+(ei l).length≤_;omega)
theorem BJ {l:List lV} {j:Nat} (h:j<l.length):ei (l.take (j+1))=ei (l.take j)++dE l[j].1 l[j].2.1 l[j].2.2:=by
 unfold ei
 rw [List.take_add_one,List.getElem?_eq_getElem h,List.flatMap_append]
 simp
theorem DE:∀ro ys T K,xx ro ys T K→VCx Try.prog ae ro oG ys T K:=by
 intro ro ys T K hw
 unfold xx at hw
 split at hw
 ·rename_i fl t v
  obtain ⟨⟨h1,h2,hv,hl⟩,hk⟩:=hw
  have hb:=pG (fl:=fl) (t:=t) hv hl
  refine VCx.liftPure (xs:= [qE fl t v]) ap ?_ ?_ (fun f g=>by simp only [TV.ren,EW,hb.ren,Tok.ren]) hk
  ·cases v with
   | nil=>exact BE fl t
   | cons r v=>exact Dw fl t hv hl
  ·simp only [av,qE,TV.ren,hv.ren,Tok.ren]
 ·exact hw.elim
theorem rB:∃(inf:TypeInfo) (z:Value),Try.prog.info? 162=some inf∧inf.size=3∧inf.bytes+1≤1000∧inf.zero=some z∧z.cells.size=3:=
 ⟨(Try.prog.info? 162).getD default,((Try.prog.info? 162).getD default).zero.getD default,by kernel_rfl,by kernel_rfl,Nat.le_of_ble_eq_true (by kernel_rfl),by kernel_rfl,by kernel_rfl⟩
theorem zn {x i:Operand} {l:List (Nat × TV)} {es:Bs} {tok:Tok} {k:IntKind} {z:Int} {cs:List TV} (hx:aR ae l x= .vec 3 es tok) (hz:aR ae l i= .val (.int k z)) (h0:0≤z) (he:es[z.toNat]?=some cs):aW Try.prog ae (.indexAddr 165 x i) l (.elt cs):=by
 obtain ⟨inf,_,i1,i2,_,_,_⟩:=rB
 exact fu (inf:=inf) Try.underlying165 i1 (by rw [i2];exact hx) hz h0 he
theorem DF {l:List lV} (h:∀r∈l,jd r.1 r.2.1 r.2.2∧r.2.2.length≤1000) (hl:l.length≤10):gH Try.prog ae (H2 (ei l) (l.map fw) (am Try.prog mN 0)):=bf fun p hp=>by
  obtain rfl:=List.mem_singleton.1 hp
  have hS:aY Try.prog ae (ax [(oG,xx)]):=aA fun p hp=>by obtain rfl:=List.mem_singleton.1 hp;exact DE
  have hq:∀j,∀r∈l.take j,jd r.1 r.2.1 r.2.2∧r.2.2.length≤1000:=fun j r hr=>h r (List.mem_of_mem_take hr)
  refine Bb fun K hK=> ?_
  refine cH (f:=mN) (id:=0) (by kernel_rfl) 18 zg (fun j:Nat=>l.length-j) (fun j:Nat=>vL (ei (l.take j)) (l.map fw) j) (fun j=>⟨[], [((ei (l.take j)).length,1,true)]⟩) (fun j=>j≤l.length) 0 1 (fun _ _=>⟨Nat.le_refl _,Nat.le_refl _⟩)
    (fun e vs T=>e= .normal∧vs=vL (ei l) (l.map fw) (l.map fw).length∧T=⟨[], [((ei l).length,1,true)]⟩) (fun j hj=> ?_) 0 (Nat.zero_le _) K ?_
  · by_cases hlt:j<l.length
    · have hat:(l.map fw)[((j:Nat):Int).toNat]?=some (fw l[j]):=by rw [Int.toNat_natCast,List.getElem?_map,List.getElem?_eq_getElem hlt];rfl
      have hp:=h _ (List.getElem_mem hlt)
      have hb1:=nu (hq j)
      have hb2:=qH l[j].1 l[j].2.1 l[j].2.2
      rw [List.length_take] at hb1
      have ht:=vI [.cells (fw l[j])] (ei (l.take j)) (dE l[j].1 l[j].2.1 l[j].2.2) (by omega) 12 14 rfl
      rw [←BJ hlt] at ht
      refine bh ac aa hS ag (zi (ei (l.take j)) (ei (l.take (j+1))) (l.map fw) l[j].2.2 l[j].1 l[j].2.1 j _) ?_
      refine be (decide_eq_true (by rw [List.length_map];omega)) ⟨zn rfl rfl (by omega) hat,hp.1,ht,rfl,rfl,j+1,hlt,by show l.length-(j+1)<l.length-j;omega, .inr ⟨rfl, ?_⟩⟩
      simp only [av,TV.ren,vM h,(kE (hq (j+1)) (by rw [List.length_take];omega)).ren,Tok.ren]
      rw [sc hlt (by omega)]
      rfl
    · have hj2:j=l.length:=by omega
      refine bh ac aa hS ag (zi (ei (l.take j)) [] (l.map fw) [] 0 0 j _) ?_
      subst hj2
      exact aI (decide_eq_false (by rw [List.length_map];omega)) ⟨rfl,rfl,rfl,by simp only [vL,List.length_map,List.take_length],by rw [List.take_length]⟩
  · rintro e vs T ⟨rfl,rfl,rfl⟩
    exact hK
theorem E5 {l:List lV} (h:∀r∈l,jd r.1 r.2.1 r.2.2∧r.2.2.length≤1000) (hl:l.length≤10):VCx Try.prog ae 0 mN [.vec 3 (l.map fw) .none] ⟨[], []⟩ fun x T' =>x= .vec 1 (ei l) .none∧T' =⟨[], []⟩:=by
 refine VCx.toLe (Q:=fun T' =>T' =⟨[], []⟩) (VCx.keepQ 0 0 (Nat.le_refl _) (Nat.le_refl _) (ai ac aa ah (DF h hl) (He (ei l) (l.map fw) _) ⟨rfl,⟨rfl,rfl,rfl,⟨rfl,trivial⟩,rfl,rfl,rfl⟩, ?_,rfl⟩))
 simp only [TV.ren,(kE h hl).ren]
 exact .vec 1 _ _
theorem E6:∀ro ys T K,Cv ro ys T K→VCx Try.prog ae ro mN ys T K:=by
 intro ro ys T K hw
 unfold Cv at hw
 split at hw
 ·obtain ⟨⟨l,rfl,hl,h⟩,hk⟩:=hw
  have hb:=kE h hl
  exact VCx.loosePure (xs:= [.vec 3 (l.map fw) .none]) ap (E5 h hl) (by simp [bH,fw]) (by simp only [av,TV.ren,vM h,Tok.ren]) (fun f g=>by simp only [TV.ren,hb.ren,Tok.ren]) (hk _ (nt l).symm)
 ·exact hw.elim
theorem AtV.ren (a:AtV) (f g:Nat→Option Nat):av f g a.cells=a.cells:=by
 simp only [AtV.cells,av,TV.ren,dL,Tok.ren]
theorem E7:aY Try.prog ae (ax [(zd,Cu),(xr,xt)]):=aA fun p hp=>by
 rcases List.mem_cons.1 hp with rfl | hp;exact E2
 obtain rfl:=List.mem_singleton.1 hp;exact Dt Ds
set_option maxHeartbeats 1000000 in
theorem E8 (a:AtV) (hn:a.p.length≤9223372036854775807):VCx Try.prog ae 0 pI [.agg a.cells] ⟨[], []⟩ fun x T' =>x= .val (.bool (dM a))∧T' =⟨[], []⟩:=by
 refine VCx.keepQ 0 0 (Nat.le_refl _) (Nat.le_refl _) (ai ac aa E7 ag (Hf a.o a.h a.m a.hm (iV a.p) _) ?_)
 have hcf:mL (iV a.p)= !a.p.all dD:=by unfold mL;rw [hZ]
 rw [rq,eR,hcf]
 have hw:jZ (iV a.p):=⟨a.p,rfl,hn⟩
 have fin:∀(b:Bool) (T:VT),dM a=b→((TV.val (.bool b)).ren (aw 0) (aw 0)= .val (.bool (dM a))∧T.keep 0 0=⟨[], []⟩):=fun b T h=>⟨by rw [h];rfl,by simp [VT.keep]⟩
 by_cases h1:a.o<0
 ·exact be (decide_eq_true h1) (fin false _ (by unfold dM;rw [decide_eq_false (show ¬0≤a.o by omega)];rfl))
 have e1:decide (0≤a.o)=true:=decide_eq_true (by omega)
 refine aI (decide_eq_false h1) ?_
 by_cases h2:a.o>2
 ·exact be (decide_eq_true h2) (be (decide_eq_true h2) (fin false _ (by unfold dM;rw [e1,decide_eq_false (show ¬a.o≤2 by omega)];rfl)))
 have e2:decide (a.o≤2)=true:=decide_eq_true (by omega)
 refine aI (decide_eq_false h2) ?_
 cases h3:mK a.h
 ·exact be rfl (fin false _ (by unfold dM;rw [e1,e2,h3];rfl))
 refine aI rfl ?_
 by_cases h4:((a.p.length:Nat):Int)>16
 ·exact be (decide_eq_true h4) (be (decide_eq_true h4) (fin false _ (by unfold dM;rw [e1,e2,h3,decide_eq_false (show ¬a.p.length≤16 by omega)];rfl)))
 have e4:decide (a.p.length≤16)=true:=decide_eq_true (by omega)
 refine aI (decide_eq_false h4) ⟨hw, ?_⟩
 cases h5:a.p.all dD
 ·exact be rfl (fin false _ (by unfold dM;rw [e1,e2,h3,e4,h5];rfl))
 refine aI rfl ?_
 cases h6:a.hm
 ·exact be rfl (fin _ _ (by unfold dM;rw [e1,e2,h3,e4,h5,h6];rfl))
 refine aI rfl (bp (fun h7=> ?_) (fun h7=> ?_))
 ·exact fin _ _ (by unfold dM;rw [e1,e2,h3,e4,h5,h6,show decide (0≤a.m)=true from h7];rfl)
 ·exact fin false _ (by unfold dM;rw [e1,e2,h3,e4,h5,h6,show decide (0≤a.m)=false from h7];rfl)
def fh (a:AtV):List lV:= [(64,1,aL 1 a.o),(64,2,fv (iV a.p)),(64,3,aL 4 a.h)]++bif a.hm then [(128,4,aL 4 a.m)] else []
def ig (a:AtV):Bs:=bif dM a then ei (fh a) else []
structure H3 (a:AtV):Prop where
 o:0≤a.o∧a.o≤2
 h:mK a.h=true
 p:a.p.length≤16∧a.p.all dD=true
 m:a.hm=true→0≤a.m∧a.m≤4294967295
 m0:a.hm=false→a.m=0
theorem pJ {a:AtV} (h:dM a=true):H3 a:=by
 unfold dM at h
 simp only [Bool.and_eq_true,decide_eq_true_eq] at h
 obtain ⟨h1,h2,h3,h4,h5,h6⟩:=h
 refine ⟨⟨h1,h2⟩,h3,⟨h4,h5⟩,fun h=> ?_,fun h=> ?_⟩
 ·rw [h] at h6
  simp only [cond_true,Bool.and_eq_true,decide_eq_true_eq] at h6
  exact h6
 ·rw [h] at h6
  simp only [cond_false,decide_eq_true_eq] at h6
  exact h6
theorem tJ {a:AtV} (h:H3 a):(∀r∈fh a,jd r.1 r.2.1 r.2.2∧r.2.2.length≤1000)∧(fh a).length≤10:=by
 have b1:∀(fl t:Nat) (k n:Int),fl<256→t<256→k≤8→jd fl t (aL k n)∧(aL k n).length≤1000:=fun fl t k n h1 h2 h3=>⟨⟨⟨by omega,by omega⟩,⟨by omega,by omega⟩,cJ n h3,by rw [bN];omega⟩,by rw [bN];omega⟩
 have hs:=zm h.p.1
 refine ⟨fun r hr=> ?_,by unfold fh;cases a.hm<;>simp⟩
 unfold fh at hr
 rcases List.mem_append.1 hr with hr | hr
 ·simp only [List.mem_cons,List.not_mem_nil,or_false] at hr
  rcases hr with rfl | rfl | rfl
  ·exact b1 64 1 1 _ (by decide) (by decide) (by decide)
  ·exact ⟨⟨⟨by show (0:Int)≤64;decide,by show (64:Int)<256;decide⟩,⟨by show (0:Int)≤2;decide,by show (2:Int)<256;decide⟩,hs.1,by have:=hs.2;show (fv (iV a.p)).length≤_;omega⟩,by have:=hs.2;show (fv (iV a.p)).length≤_;omega⟩
  ·exact b1 64 3 4 _ (by decide) (by decide) (by decide)
 ·cases hm:a.hm<;>rw [hm] at hr
  ·cases hr
  ·obtain rfl:=List.mem_singleton.1 hr
   exact b1 128 4 4 _ (by decide) (by decide) (by decide)
theorem tK (a:AtV):IsB (ig a):=by
 unfold ig
 cases h:dM a
 ·exact .nil
 ·have:=tJ (pJ h)
  exact kE this.1 this.2
theorem vN (a:AtV):(ig a).length≤10040:=by
 unfold ig
 cases h:dM a
 ·exact Nat.zero_le _
 ·have:=tJ (pJ h)
  have h2:=nu this.1
  have h3:=this.2
  simp only [cond_true];omega
theorem BK (objs:List VO) (A c:Bs) (hc:A.length+c.length≤1000):aZ Try.prog ae 0 ⟨objs, []⟩ (.call ⟨.builtin .append, #[.tmp 22, .tmp 28], #[165,165]⟩) [(22, .vec 3 A .full),(28, .vec 3 c .full)] (.vec 3 (A++c) (.tail 0 c.length)) ⟨objs, [(c.length,3,false)]⟩:=by
  obtain ⟨inf,z,i1,i2,i3,i4,i5⟩:=rB
  have h1:=mG (inf:=inf) (P:=Try.prog) (G:=ae) (ro:=0) (T:=⟨objs, []⟩) (T1:=⟨objs, [(0,3,false)]⟩) (t:=165) (tx:=165) (s:= .tmp 22) (x:= .tmp 28) (l:= [(22, .vec 3 A .full),(28, .vec 3 c .full)]) (es:=A) (es2:=c) (k:=0) (n:=0) (bn:=false) Try.underlying165 i1 i4 (by rw [i2];exact i5) (by rw [i2];decide) (by kernel_rfl)
    (by rw [i2];simp [aR,cR,fm]) (by rw [i2];rfl)
    (by have h1:=i3
        have h2:=Nat.mul_le_mul (show A.length+c.length≤2000001 by omega) h1
        omega)
  rw [i2,Nat.zero_add] at h1
  exact h1
theorem DG {n:Int} (h0:0≤n) (h1:n≤4294967295):IntKind.u32.wrap n=n:=by
 simp only [IntKind.wrap,IntKind.bits,IntKind.signed];simp;omega
theorem tL (ok:Bool):∀ro ys T K,rA ok ro ys T K→VCx Try.prog ae ro pI ys T K:=by
 intro ro ys T K hw
 unfold rA at hw
 split at hw
 ·obtain ⟨⟨a,rfl,hn,rfl⟩,hk⟩:=hw
  exact VCx.liftPure ap (E8 a hn) (by simp only [av,TV.ren,a.ren]) (fun _ _=>rfl) hk
 ·exact hw.elim
theorem E9 (a:AtV) (hn:a.p.length≤9223372036854775807) (hh:0≤a.h∧a.h<4294967296):VCx Try.prog ae 0 ze [.agg a.cells] ⟨[], []⟩ fun x T' =>x= .vec 1 (ig a) .none∧T' =⟨[], []⟩:=by
  have hS:aY Try.prog ae (ax [(pI,rA (dM a)),(ru,hU .i64 1),(oH,hU .u32 4),(mM,Cw),(mN,Cv)]):=aA fun p hp=>by
    rcases List.mem_cons.1 hp with rfl | hp;exact tL _
    rcases List.mem_cons.1 hp with rfl | hp;exact Ct
    rcases List.mem_cons.1 hp with rfl | hp;exact zb
    rcases List.mem_cons.1 hp with rfl | hp;exact E4
    obtain rfl:=List.mem_singleton.1 hp;exact E6
  refine VCx.toLe (Q:=fun T' =>T' =⟨[], []⟩) (VCx.keepQ 0 0 (Nat.le_refl _) (Nat.le_refl _) (ai ac aa hS ag (Hg a.o a.h a.m a.hm (dM a) (iV a.p) ((fh a).map fw) _) ⟨⟨a,rfl,hn,rfl⟩, ?_⟩))
  cases hg:dM a
  · refine be rfl ⟨?_,by simp [VT.keep]⟩
    unfold ig;rw [hg];exact .nil 1
  · have hA:=pJ hg
    have hr:=tJ hA
    have hb:=kE hr.1 hr.2
    have e:ig a=ei (fh a):=by unfold ig;rw [hg];rfl
    have hend:∀T:VT,TVle ((TV.vec 1 (ei (fh a)) .none).ren (aw 0) (aw 0)) (.vec 1 (ig a) .none)∧T.keep 0 0=⟨[], []⟩:=fun T=>⟨by rw [e];simp only [TV.ren,hb.ren,Tok.ren];exact .refl _,by simp [VT.keep]⟩
    have hjd:xv ((fh a).map fw):=⟨fh a,rfl,hr.2,hr.1⟩
    refine aI rfl ⟨rfl,⟨⟨hA.o.1,by have:=hA.o.2;omega⟩,by decide,by decide⟩,⟨rfl,rfl,rfl,trivial⟩,⟨a.p,rfl,hA.p.1,hA.p.2⟩,⟨rfl,rfl,rfl,trivial⟩,rfl,⟨⟨hh.1,by omega⟩,by decide,by decide⟩, ?_⟩
    cases hm:a.hm
    · have e2:(fh a).map fw= [[.val (.int .i64 64), .val (.int .i64 1), .vec 1 (aL 1 a.o) .none], [.val (.int .i64 64), .val (.int .i64 2), .vec 1 (fv (iV a.p)) .none], [.val (.int .i64 64), .val (.int .i64 3), .vec 1 (aL 4 a.h) .none]]:=by unfold fh;rw [hm];rfl
      rw [e2] at hjd
      refine aI rfl ⟨hjd,fun v hv=> ?_⟩
      rw [←e2] at hv
      unfold tG at hv
      rw [nt] at hv
      subst hv
      exact hend _
    · have hm2:=hA.m hm
      refine be rfl ⟨rfl, ?_⟩
      rw [DG hm2.1 hm2.2]
      have e2:(fh a).map fw= [[.val (.int .i64 64), .val (.int .i64 1), .vec 1 (aL 1 a.o) .none], [.val (.int .i64 64), .val (.int .i64 2), .vec 1 (fv (iV a.p)) .none], [.val (.int .i64 64), .val (.int .i64 3), .vec 1 (aL 4 a.h) .none]]++ [[.val (.int .i64 128), .val (.int .i64 4), .vec 1 (aL 4 a.m) .none]]:=by unfold fh;rw [hm];rfl
      refine ⟨⟨⟨hm2.1,by omega⟩,by decide,by decide⟩, ?_,hjd,fun v hv=> ?_⟩
      · rw [e2]
        exact BK _ _ _ (by show 3+1≤1000;decide)
      · unfold tG at hv
        rw [nt] at hv
        subst hv
        exact hend _
theorem zo (a b:AtV) (hn:a.p.length≤9223372036854775807) (hn2:b.p.length≤9223372036854775807):VCx Try.prog ae 0 mO [.agg a.cells, .agg b.cells] ⟨[], []⟩ fun x T' =>x= .val (.bool (decide (a=b)))∧T' =⟨[], []⟩:=by
 have hS:aY Try.prog ae (ax [(nS,E0)]):=aA fun p hp=>by
  obtain rfl:=List.mem_singleton.1 hp
  intro ro ys T K hw
  simp only at hw
  unfold E0 at hw
  split at hw
  ·obtain ⟨⟨⟨l,rfl,hn⟩,⟨m,rfl,hn2⟩⟩,hk⟩:=hw
   have e:vK (iV l) (iV m)=decide (l=m):=by unfold vK;rw [hZ,hZ]
   rw [e] at hk
   exact VCx.loosePure ap (EU hn) (by simp [bH]) (by simp [av,TV.ren,dL,Tok.ren]) (fun _ _=>rfl) hk
  ·exact hw.elim
 have e:vK (iV a.p) (iV b.p)=decide (a.p=b.p):=by unfold vK;rw [hZ,hZ]
 refine VCx.keepQ 0 0 (Nat.le_refl _) (Nat.le_refl _) (ai ac aa hS ag (Hh a.o a.h a.m b.o b.h b.m a.hm b.hm (iV a.p) (iV b.p) _) ?_)
 have fin:∀(q:Bool) (T:VT),decide (a=b)=q→((TV.val (.bool q)).ren (aw 0) (aw 0)= .val (.bool (decide (a=b)))∧T.keep 0 0=⟨[], []⟩):=fun b T h=>⟨by rw [h];rfl,by simp [VT.keep]⟩
 have ne:∀{X:Prop},(a=b→X)→¬X→decide (a=b)=false:=fun h k=>decide_eq_false fun c=>k (h c)
 rw [rq,rq,rq,e]
 refine bp (fun c1=>bp (fun c2=>bp (fun c3=>bp (fun c4=> ?_) (fun c4=> ?_)) (fun c3=> ?_)) (fun c2=> ?_)) (fun c1=> ?_)
 ·refine ⟨⟨⟨_,rfl,hn⟩,⟨_,rfl,hn2⟩⟩,fin _ _ ?_⟩
  have d1:=of_decide_eq_true c1
  have d2:=of_decide_eq_true c2
  have d3:=of_decide_eq_true c3
  have d4:a.hm=b.hm:=by simpa [aT,an,ce] using c4
  refine decide_eq_decide.2 ⟨fun h=>by rw [h],fun hp=> ?_⟩
  obtain ⟨o,p,h,m,hm⟩:=a
  obtain ⟨o2,p2,h2,m2,hm2⟩:=b
  simp only [AtV.mk.injEq]
  exact ⟨d1,hp,d2,d3,d4⟩
 ·exact fin false _ (ne (X:=a.hm=b.hm) (fun h=>by rw [h]) (fun h=>by rw [h] at c4;simp [aT,an,ce] at c4))
 ·exact fin false _ (ne (X:=a.m=b.m) (fun h=>by rw [h]) (of_decide_eq_false c3))
 ·exact fin false _ (ne (X:=a.h=b.h) (fun h=>by rw [h]) (of_decide_eq_false c2))
 ·exact fin false _ (ne (X:=a.o=b.o) (fun h=>by rw [h]) (of_decide_eq_false c1))
end
--MsFa
section
open Go.RowKit

abbrev vO:=98
abbrev tM:=129
def tN (n:Int) (y:TV) (T2:VT) (ro:Nat) (T:VT):Prop:=VCx Try.prog ae ro tM [.val (.slice none 0 0), .val (.int .i64 n)] T fun x T1=>x=y∧T1=T2
def zp (gy:TV) (gT:VT):aP:=fun ro ys T K=>match ys with
 | [.val (.slice none 0 0), .val (.int .i64 n)]=>tN n gy gT ro T∧K gy gT
 | _=>ar 84 default ys
def Fa (y1 y2:TV) (T1 T2:VT):List TV→Option (TV × Option VT)
 | [.row _ 0 _ _, .vec _ (_::_) _]=>some (y1,some T1)
 | [.row _ (_+1) _ _, .vec _ (_::_) _]=>some (y2,some T2)
 | _=>none
def xy (y1 y2:TV) (T1 T2:VT):gn:=fun o σ _=>match o.dst with
 | some d=>bif Nat.beq d 33 then Fa y1 y2 T1 T2 σ else none
 | none=>none
theorem Hi (n:Int) (k:Nat) (W:List TV) (T:VT) (Q:TV→VT→Prop):aq Try.prog ae aS (aG [(22, .row 1 0 0 k,some fun T=>T.newRow W)]) 300 az 0 tM [.val (.slice none 0 0), .val (.int .i64 n)] ⟨[], []⟩ Q=
 (bif decide (n<(0:Int))
 then False
 else (bif decide (IntKind.wrap IntKind.i64 (n-IntKind.wrap IntKind.i64 ((↑(0:Nat):Int)-(↑(0:Nat):Int)))>(0:Int))
 then (aZ Try.prog (fun _=> .none) 0 ⟨[], []⟩ (.call ⟨(.builtin .append), #[(.tmp 20),(.tmp 21)], #[108,3]⟩) [(20,(.val (.slice .none 0 0))),(21,(.val (.int .i64 (IntKind.wrap IntKind.i64 (n-IntKind.wrap IntKind.i64 ((↑(0:Nat):Int)-(↑(0:Nat):Int)))))))] (.row 1 0 0 (k)) ⟨[(.row (W))], []⟩∧
 Q (.row 1 0 0 0) ⟨[(.row (W))], []⟩)
 else Q (.val (.slice .none 0 0)) ⟨[], []⟩)):=by kernel_rfl
end
--MsFb
section
open Go.RowKit

def zR (n:Nat):List TV:=(Builtin.zeroCells (Value.int .u8 0).cells n).toList.map .val
theorem Fb (n:Nat):(zR n).length=n:=by
 unfold zR
 rw [List.length_map,Array.length_toList,size_zeroCells]
 exact Nat.mul_one n
theorem Fc (f g:Nat→Option Nat) (n:Nat):av f g (zR n)=zR n:=l8 _ _ _
theorem Fd {n:Int} (h0:0<n) (h1:n≤2000000):VCx Try.prog ae 0 tM [.val (.slice none 0 0), .val (.int .i64 n)] ⟨[], []⟩ fun x T1=>x= .row 1 0 0 0∧T1=⟨[.row (zR n.toNat)], []⟩:=by
 obtain ⟨inf,i1,i2,i3,i4⟩:=jb
 refine ai ac aa ah ag (Hi n n.toNat (zR n.toNat) ⟨[], []⟩ _) ?_
 have e:IntKind.wrap IntKind.i64 (n-IntKind.wrap IntKind.i64 (((0:Nat):Int)-((0:Nat):Int)))=n:=by
  rw [show IntKind.wrap IntKind.i64 (((0:Nat):Int)-((0:Nat):Int))=0 from rfl,Int.sub_zero,fg (by omega) (by omega)]
 refine aI (decide_eq_false (by omega)) (be (decide_eq_true (by rw [e];exact h0)) ⟨?_,rfl,rfl⟩)
 rw [e]
 have h:=pE (P:=Try.prog) (G:=ae) (ro:=0) (T:=⟨[], []⟩) (t:=108) (tn:=3) (s:= .tmp 20) (x:= .tmp 21) (l:= [(20, .val (.slice none 0 0)),(21, .val (.int .i64 n))]) (inf:=inf) (m:=n) Try.underlying108 Try.underlying3 i1 i4 (by rw [i2];rfl) (by rw [i2];decide) rfl rfl rfl h0 (by rw [i3];omega)
 rw [i2] at h
 exact h
theorem Cx {n:Int} (h0:0<n) (h1:n≤2000000) (ro:Nat) (T:VT):tN n (.row 1 T.objs.length 0 0) {T with objs:=T.objs++ [.row (zR n.toNat)]} ro T:=by
 unfold tN
 refine (VCx.lift (T:=T) [] [] ap List.nodup_nil List.nodup_nil (by simp) (by simp) (by simp) rfl (by rw [VT.give_nil];exact Fd h0 h1) (fun _ _ _=>⟨Nat.zero_le _,Nat.zero_le _⟩)).mono ?_
 rintro z T' ⟨x,T'',⟨rfl,rfl⟩,rfl,rfl⟩
 refine ⟨by simp [TV.ren,aO], ?_⟩
 rw [VT.back_nil]
 simp [VO.ren,Fc]
theorem Fe {gy:TV} {gT:VT}:∀ro ys T K,zp gy gT ro ys T K→VCx Try.prog ae ro tM ys T K:=by
 intro ro ys T K hw
 unfold zp at hw
 split at hw
 ·obtain ⟨h,hk⟩:=hw
  exact VCx.mono h fun x T1 ⟨h1,h2⟩=>by subst h1 h2;exact hk
 ·exact hw.elim
theorem vP:∀l:List Int,(bV l).flatten=l.map Im
 | []=>rfl
 | z::l=>by
  have:=vP l
  simp only [bV,List.map_cons,List.flatten_cons] at this ⊢
  rw [this];rfl
theorem IsB.append {a b:Bs} (h:IsB a) (k:IsB b) (hl:(a++b).length≤1000000):IsB (a++b):=by
 obtain ⟨⟨l,rfl,hz⟩,_⟩:=h
 obtain ⟨⟨m,rfl,hy⟩,_⟩:=k
 refine ⟨⟨l++m,by simp [bV],fun z h=> ?_⟩,hl⟩
 rcases List.mem_append.1 h with h | h
 ·exact hz z h
 ·exact hy z h
theorem rC {w:Bs} (h:IsB w):w.flatten.length=w.length:=by
 obtain ⟨⟨l,rfl,_⟩,_⟩:=h
 rw [vP]
 simp [bV]
theorem Ff {gy:TV} {gT:VT}:aY Try.prog ae (ax [(tM,zp gy gT)]):=aA fun p hp=>by
 obtain rfl:=List.mem_singleton.1 hp;exact Fe
end
--MbH
section
open Go.RowKit

abbrev tO:=64
abbrev mP:=122
abbrev mQ:=90
abbrev j3:=121
abbrev tP:=89
abbrev tQ:=63
abbrev Fg:=91
abbrev H4:=27
abbrev tR:=99
abbrev H5:=66
def pK (n:Int):Int:=if (32:Int)<if (0:Int)>n then (0:Int) else n then (32:Int) else if (0:Int)>n then (0:Int) else n
def tS (a n:Int):Int:=Cp a (pK n)
def gq (a n:Int):Bool:=decide (a=tS a n)&&decide (n=pK n)
def Is:List TV→Int × Int
 | [.val (.int _ a), .val (.int _ n)]=>(a,n)
 | _=>(0,0)
def Cy (l:Bs):List (Int × Int):=l.map Is
def mR (l:Bs):Prop:=∃p:List (Int × Int),l=au p∧p.length≤100000
def xz (l:Bs):Prop:=∃p:List (Int × Int),l=au p∧p.length≤2000000
def ii (l:Bs):Bool:= !(Cy l).all fun p=>gq p.1 p.2
def bS:AtV:=⟨0, [],0,0,false⟩
def Fh:List TV:= [.val (.int .i64 0), .val (.slice none 0 0), .val (.int .u32 0), .val (.int .i64 0), .val (.bool false)]
def BL (l m:List TV) (ok:Bool):Prop:=∃a:AtV,l=a.cells∧a.p.length≤9223372036854775807∧m=Fh∧ok=decide (a=bS)
def BM (l m:List TV) (ok:Bool):Prop:=∃a b:AtV,(l=a.cells∧m=b.cells)∧(a.p.length≤9223372036854775807∧b.p.length≤9223372036854775807)∧ok=decide (a=b)
def Fi (l:List TV) (v:Bs):Prop:=∃a:AtV,l=a.cells∧a.p.length≤9223372036854775807∧(0≤a.h∧a.h<4294967296)∧v=ig a
def tT (l:Bs):Prop:=∃p:List (Int × Int),l=au p∧ly p
def fR (l:Bs):Bs:=cG (Cy l)
def qI (b:Bs):Prop:=IsB b∧b.length≤500000
def tU (a b c:Bs):Prop:=(IsB a∧a≠ [])∧(IsB b∧b≠ [])∧IsB c∧a.length+b.length+c.length≤1000000
structure UpV where
 w:List (Int × Int)
 a:AtV
 n:List (Int × Int)
 deriving DecidableEq
def UpV.cells (u:UpV):List TV:= [.vec 2 (au u.w) .none, .val (.int .i64 u.a.o), .vec 1 (iV u.a.p) .none, .val (.int .u32 u.a.h), .val (.int .i64 u.a.m), .val (.bool u.a.hm), .vec 2 (au u.n) .none]
def fS (u:UpV):Bool:=(u.w++u.n).all (fun p=>gq p.1 p.2)&&bif decide ((u.n.length:Int)>0) then dM u.a else decide (u.a=bS)
def mS (u:UpV):Bs:=bif decide ((u.n.length:Int)>0) then ig u.a else []
def nU (u:UpV):Bs:=(aL 2 (cG u.w).length++cG u.w)++((aL 2 (mS u).length++mS u)++cG u.n)
def fj (u:UpV):Prop:=u.w.length≤50000∧u.n.length≤50000∧u.a.p.length≤9223372036854775807∧0≤u.a.h∧u.a.h<4294967296
def ir (n:Int) (y:TV) (T2:VT) (ro:Nat) (T:VT):Prop:=VCx Try.prog ae ro mP [.val (.slice none 0 0), .val (.int .i64 n)] T fun x T1=>x=y∧T1=T2
def oI (gy:TV) (gT:VT):aP:=fun ro ys T K=>match ys with
 | [.val (.slice none 0 0), .val (.int .i64 n)]=>ir n gy gT ro T∧K gy gT
 | _=>ar 84 default ys
def Fj (y1 y2 y3:TV) (T1 T2 T3:VT):List TV→Option (TV × Option VT)
 | [.row _ 0 _ _, .vec _ (_::_) _]=>some (y1,some T1)
 | [.row _ 1 _ _, .vec _ (_::_) _]=>some (y2,some T2)
 | [.row _ (_+2) _ _, .vec _ (_::_) _]=>some (y3,some T3)
 | _=>none
def Cz (y1 y2 y3:TV) (T1 T2 T3:VT):gn:=fun o σ _=>match o.dst with
 | some d=>bif Nat.beq d 33 then Fj y1 y2 y3 T1 T2 T3 σ else none
 | none=>none
def pL:aP:=fun _ ys T K=>match ys with
 | [x, .val (.int .u64 n), .val (.int .i64 k)]=>match x with
  | .val (.slice none 0 0)=>ef n k∧K (.vec 1 (aL k n) (.tail T.tails.length 0)) {T with tails:=T.tails++ [(0,1,false)]}
  | .vec 1 b _=>(ef n k∧nT b)∧K (.vec 1 (b++aL k n) (.tail T.tails.length 0)) {T with tails:=T.tails++ [(0,1,false)]}
  | _=>ar 85 default ys
 | _=>ar 84 default ys
def tV (kd:IntKind) (k:Int):aP:=fun _ ys T K=>match ys with
 | [x, .val (.int q n)]=>(q=kd)∧match x with
  | .val (.slice none 0 0)=>ef n k∧K (.vec 1 (aL k n) (.tail T.tails.length 0)) {T with tails:=T.tails++ [(0,1,false)]}
  | .vec 1 b _=>(ef n k∧nT b)∧K (.vec 1 (b++aL k n) (.tail T.tails.length 0)) {T with tails:=T.tails++ [(0,1,false)]}
  | _=>ar 85 default ys
 | _=>ar 84 default ys
def oJ:TV:= .fn (.func 64) [] []
def BN:aP:=fun _ ys T K=>match ys with
 | [.agg [.val (.int .u32 a), .val (.int .i64 n)]]=>K (.agg [.val (.int .u32 (tS a n)), .val (.int .i64 (pK n))]) T
 | _=>ar 84 default ys
def vQ:aP:=fun _ ys T K=>match ys with
 | [.agg [.val (.int .u32 a), .val (.int .i64 n)]]=>K (.val (.bool (gq a n))) T
 | _=>ar 84 default ys
def BO:aP:=fun ro ys T K=>match ys with
 | [.vec 2 l _, .fn (.func 91) [] [.ptr i 0]]=>(((@Eq Bool (Nat.ble ro i) true)∧(@Eq (Option VO) (T.objs[i]?) (some (.cells [oJ]))))∧xz l)∧bif ii l then ∀z:Nat,K (.val (.int .i64 (Int.ofNat z))) T else K (.val (.int .i64 (-1))) T
 | _=>ar 84 default ys
def xA:aP:=fun ro ys T K=>match ys with
 | [.vec 2 l _, .fn (.func 91) [] [.ptr i 0]]=>(((@Eq Bool (Nat.ble ro i) true)∧(@Eq (Option VO) (T.objs[i]?) (some (.cells [oJ]))))∧xz l)∧K (.val (.bool (ii l))) T
 | _=>ar 84 default ys
def xB:aP:=fun _ ys T K=>match ys with
 | [.vec 1 [[.vec 2 a _], [.vec 2 b _]] _]=>(mR a∧mR b)∧K (.vec 2 (a++b) .none) T
 | _=>ar 84 default ys
def xC:aP:=fun _ ys T K=>match ys with
 | [.fn (.func 64) [] [], .vec 1 [[.vec 2 a _], [.vec 2 b _]] _]=>(mR a∧mR b)∧K (.val (.bool (!ii (a++b)))) T
 | _=>ar 84 default ys
def vR (ok:Bool):aP:=fun _ ys T K=>match ys with
 | [.agg l, .agg m]=>BL l m ok∧K (.val (.bool ok)) T
 | _=>ar 84 default ys
def zq (ok:Bool):aP:=fun _ ys T K=>match ys with
 | [.agg l, .agg m]=>BM l m ok∧K (.val (.bool ok)) T
 | _=>ar 84 default ys
def CA (v:Bs):aP:=fun _ ys T K=>match ys with
 | [.agg l]=>Fi l v∧K (.vec 1 v .none) T
 | _=>ar 84 default ys
def CB:aP:=fun _ ys T K=>match ys with
 | [.vec 2 l _]=>tT l∧K (.vec 1 (fR l) .none) T
 | _=>ar 84 default ys
def CC:aP:=fun _ ys T K=>match ys with
 | [.val (.slice none 0 0)]=>K (.vec 1 (aL 2 0) .none) T
 | [.vec 1 b _]=>qI b∧K (.vec 1 (aL 2 b.length++b) .none) T
 | _=>ar 84 default ys
def xD:aP:=fun _ ys T K=>match ys with
 | [.vec 1 [[.vec 1 a _], [.vec 1 b _], [.vec 1 c _]] _]=>tU a b c∧K (.vec 1 (a++(b++c)) .none) T
 | _=>ar 84 default ys
def vS:List Nat:= [0,1,4,7,8]
def rD (l:Bs) (r j:Int):List TV:= [.vec 2 l .none, .fn (.func 91) [] [.ptr 0 0], .val (.int .i64 r), .val (.int .i64 l.length), .val (.int .i64 j)]
def mT:VT:=⟨[.cells [oJ]], []⟩
def It (l:Bs) (ok:Bool) (K:KX):Prop:=∀(z:Nat) (a n:Int),bif ok then K .normal (ak 19 vS (rD l 0 l.length)) mT [] else K .ret (ak 19 vS (rD l z z)) ⟨[.cells [oJ], .cells [.val (.int .u32 a), .val (.int .i64 n)]], []⟩ []
def H6 (l:Bs) (ok:Bool) (c0:Code):Nat→Option (bD × Code):=b6 [(0,cO 19 vS [] (rD l 0 0) mT (It l ok),c0)]
theorem DH (b:Bs) (tok:Tok) (n:Int) (Q:TV→VT→Prop):aq Try.prog ae (ax [(dK,pL)]) aF 300 az 0 je [.vec 1 b tok, .val (.int .i64 n)] ⟨[], []⟩ Q=
 ((ef (IntKind.wrap IntKind.u64 n) 2∧
 nT (b))∧
 Q (.vec 1 (b++aL (2:Int) (IntKind.wrap IntKind.u64 n)) (.tail 0 0)) ⟨[], [(0,(1,false))]⟩):=by kernel_rfl
theorem BP (n:Int) (Q:TV→VT→Prop):aq Try.prog ae (ax [(dK,pL)]) aF 300 az 0 je [.val (.slice none 0 0), .val (.int .i64 n)] ⟨[], []⟩ Q=
 (ef (IntKind.wrap IntKind.u64 n) 2∧
 Q (.vec 1 (aL (2:Int) (IntKind.wrap IntKind.u64 n)) (.tail 0 0)) ⟨[], [(0,(1,false))]⟩):=by kernel_rfl
theorem Hj (a n:Int) (Q:TV→VT→Prop):aq Try.prog ae (ax [(oE,BN)]) (aG [(999998, .dead,none)]) 300 az 0 tO [.agg [.val (.int .u32 a), .val (.int .i64 n)]] ⟨[], []⟩ Q=
 (((@Eq (Option TV) (.some (.agg [(.val (.int .u32 (a))),(.val (.int .i64 (n)))])) (.some (.agg [(.val (.int .u32 (a))),(.val (.int .i64 (n)))])))∧
 ((@Eq (Option TV) (.some (.agg [(.val (.int .u32 (a))),(.val (.int .i64 (n)))])) (.some (.agg [(.val (.int .u32 (a))),(.val (.int .i64 (n)))])))∧
 True))∧
 Q (.val (.bool (aT BinOp.eql (an ((fun vs=>Value.agg (List.toArray vs)) ((fun x=>Value.int IntKind.u32 a::x) ((fun x=>Value.int IntKind.i64 n::x) []))) ((fun vs=>Value.agg (List.toArray vs)) ((fun x=>Value.int IntKind.u32 (tS a n)::x) ((fun x=>Value.int IntKind.i64 (pK n)::x) []))))))) ⟨[(.cells [(.val (.int .u32 (a))),(.val (.int .i64 (n)))])], []⟩):=by kernel_rfl
theorem zr (n:Int) (k:Nat) (W:List TV) (T:VT) (Q:TV→VT→Prop):aq Try.prog ae aS (aG [(22, .row 2 0 0 k,some fun T=>T.newRow W)]) 300 az 0 mP [.val (.slice none 0 0), .val (.int .i64 n)] ⟨[], []⟩ Q=
 (bif decide (n<(0:Int))
 then False
 else (bif decide (IntKind.wrap IntKind.i64 (n-IntKind.wrap IntKind.i64 ((↑(0:Nat):Int)-(↑(0:Nat):Int)))>(0:Int))
 then (aZ Try.prog (fun _=> .none) 0 ⟨[], []⟩ (.call ⟨(.builtin .append), #[(.tmp 20),(.tmp 21)], #[42,3]⟩) [(20,(.val (.slice .none 0 0))),(21,(.val (.int .i64 (IntKind.wrap IntKind.i64 (n-IntKind.wrap IntKind.i64 ((↑(0:Nat):Int)-(↑(0:Nat):Int)))))))] (.row 2 0 0 (k)) ⟨[(.row (W))], []⟩∧
 Q (.row 2 0 0 0) ⟨[(.row (W))], []⟩)
 else Q (.val (.slice .none 0 0)) ⟨[], []⟩)):=by kernel_rfl
theorem DI (q r:List TV) (a b:Bs) (k:Nat) (W:List TV) (tok tok1 tok2:Tok) (y2:TV) (T0 T1 T2:VT) (Q:TV→VT→Prop):aq Try.prog ae (ax [(mP,oI (.row 2 0 0 0) T0)]) (xy (.row 2 1 0 k) y2 T1 T2) 300 az 0 mQ [.vec 1 [[.vec 2 (q::a) tok1], [.vec 2 (r::b) tok2]] tok] ⟨[], []⟩ Q=
 (bif decide (IntKind.wrap IntKind.i64 ((0:Int)+(↑(List.length (q::a)):Int))<(0:Int))
 then False
 else (bif decide (IntKind.wrap IntKind.i64 (IntKind.wrap IntKind.i64 ((0:Int)+(↑(List.length (q::a)):Int))+(↑(List.length (r::b)):Int))<(0:Int))
 then False
 else (ir (IntKind.wrap IntKind.i64 (IntKind.wrap IntKind.i64 ((0:Int)+(↑(List.length (q::a)):Int))+(↑(List.length (r::b)):Int))) (.row 2 0 0 0) (T0) 0 ⟨[], []⟩∧
 (aZ Try.prog (fun _=> .none) 0 (T0) (.call ⟨(.builtin .append), #[(.tmp 31),(.tmp 32)], #[42,42]⟩) [(31,(.row 2 0 0 0)),(32,(.vec 2 ([(q)]++a) (tok1)))] (.row 2 1 0 (k)) (T1)∧
 (aZ Try.prog (fun _=> .none) 0 (T1) (.call ⟨(.builtin .append), #[(.tmp 31),(.tmp 32)], #[42,42]⟩) [(31,(.row 2 1 0 (k))),(32,(.vec 2 ([(r)]++b) (tok2)))] (y2) (T2)∧
 Q (y2) (T2)))))):=by kernel_rfl
theorem Fk (q:List TV) (a:Bs) (k:Nat) (W:List TV) (tok tok1 tok2:Tok) (T1:VT) (Q:TV→VT→Prop):aq Try.prog ae (ax [(mP,oI (.row 2 0 0 0) ⟨[.row W], []⟩)]) (xy (.row 2 1 0 k) .dead T1 T1) 300 az 0 mQ [.vec 1 [[.vec 2 (q::a) tok1], [.vec 2 [] tok2]] tok] ⟨[], []⟩ Q=
 (bif decide (IntKind.wrap IntKind.i64 ((0:Int)+(↑(List.length (q::a)):Int))<(0:Int))
 then False
 else (bif decide (IntKind.wrap IntKind.i64 (IntKind.wrap IntKind.i64 ((0:Int)+(↑(List.length (q::a)):Int))+(↑(0:Nat):Int))<(0:Int))
 then False
 else (ir (IntKind.wrap IntKind.i64 (IntKind.wrap IntKind.i64 ((0:Int)+(↑(List.length (q::a)):Int))+(↑(0:Nat):Int))) (.row 2 0 0 0) ⟨[(.row (W))], []⟩ 0 ⟨[], []⟩∧
 (aZ Try.prog (fun _=> .none) 0 ⟨[(.row (W))], []⟩ (.call ⟨(.builtin .append), #[(.tmp 31),(.tmp 32)], #[42,42]⟩) [(31,(.row 2 0 0 0)),(32,(.vec 2 ([(q)]++a) (tok1)))] (.row 2 1 0 (k)) (T1)∧
 Q (.row 2 1 0 (k)) (T1))))):=by kernel_rfl
theorem Fl (q:List TV) (a:Bs) (k:Nat) (W:List TV) (tok tok1 tok2:Tok) (T1:VT) (Q:TV→VT→Prop):aq Try.prog ae (ax [(mP,oI (.row 2 0 0 0) ⟨[.row W], []⟩)]) (xy (.row 2 1 0 k) .dead T1 T1) 300 az 0 mQ [.vec 1 [[.vec 2 [] tok1], [.vec 2 (q::a) tok2]] tok] ⟨[], []⟩ Q=
 (bif decide (IntKind.wrap IntKind.i64 (IntKind.wrap IntKind.i64 ((0:Int)+(↑(0:Nat):Int))+(↑(List.length (q::a)):Int))<(0:Int))
 then False
 else (ir (IntKind.wrap IntKind.i64 (IntKind.wrap IntKind.i64 ((0:Int)+(↑(0:Nat):Int))+(↑(List.length (q::a)):Int))) (.row 2 0 0 0) ⟨[(.row (W))], []⟩ 0 ⟨[], []⟩∧
 (aZ Try.prog (fun _=> .none) 0 ⟨[(.row (W))], []⟩ (.call ⟨(.builtin .append), #[(.tmp 31),(.tmp 32)], #[42,42]⟩) [(31,(.row 2 0 0 0)),(32,(.vec 2 ([(q)]++a) (tok2)))] (.row 2 1 0 (k)) (T1)∧
 Q (.row 2 1 0 (k)) (T1)))):=by kernel_rfl
theorem Fm (tok tok1 tok2:Tok) (Q:TV→VT→Prop):aq Try.prog ae (ax [(mP,oI (.val (.slice none 0 0)) ⟨[], []⟩)]) aF 300 az 0 mQ [.vec 1 [[.vec 2 [] tok1], [.vec 2 [] tok2]] tok] ⟨[], []⟩ Q=
 (ir 0 (.val (.slice .none 0 0)) ⟨[], []⟩ 0 ⟨[], []⟩∧
 Q (.val (.slice .none 0 0)) ⟨[], []⟩):=by kernel_rfl
theorem Hk (l:Bs) (ok:Bool) (Q:TV→VT→Prop):aq Try.prog ae aS aF 300 (H6 l ok (am Try.prog j3 0)) 0 j3 [.vec 2 l .none, .fn (.func 91) [] [.ptr 0 0]] mT Q=
 ((am Try.prog j3 (0:Nat)=am Try.prog j3 (0:Nat))∧
 (((@Eq (Option Nat) .none .none)∧
 ((@Eq (Nat) 0 0)∧
 ((@Eq (List Nat) [] [])∧
 (True  ∧
 ((@Eq (VT) ⟨[(.cells [(.fn (.func 64) [] [])])], []⟩ ⟨[(.cells [(.fn (.func 64) [] [])])], []⟩)∧
 ((@Eq (Bool) true true)∧
 (@Eq (List TV) [(.vec 2 (l) .none),(.fn (.func 91) [] [(.ptr 0 0)]),(.val (.int .i64 0)),(.val (.int .i64 ((↑(List.length l):Int)))),(.val (.int .i64 0))] [(.vec 2 (l) .none),(.fn (.func 91) [] [(.ptr 0 0)]),(.val (.int .i64 0)),(.val (.int .i64 ((↑(List.length l):Int)))),(.val (.int .i64 0))])))))))∧
 (∀z:Nat,(∀a:Int,(∀n:Int,(bif ok
 then Q (.val (.int .i64 (-1))) ⟨[(.cells [(.fn (.func 64) [] [])])], []⟩
 else Q (.val (.int .i64 ((↑z:Int)))) ⟨[(.cells [(.fn (.func 64) [] [])]),(.cells [(.val (.int .u32 (a))),(.val (.int .i64 (n)))])], []⟩)))))):=by kernel_rfl
theorem zt (l:Bs) (a n:Int) (j:Nat) (Q:Exit→List TV→VT→List Nat→Nat→Prop):vx Try.prog ae (ax [(tO,vQ)]) (aG [(999999, .dead,none),(14, .elt [.val (.int .u32 a), .val (.int .i64 n)],none)]) 300 az none 0 (bQ Try.prog j3 0) (ak 19 vS (rD l 0 j)) mT [] (ct vS Q)=
 (bif decide ((↑j:Int)<(↑(List.length l):Int))
 then (aW Try.prog (fun _=> .none) (.indexAddr 42 (.tmp 12) (.tmp 13)) [(12,(.vec 2 (l) .none)),(13,(.val (.int .i64 ((↑j:Int)))))] (.elt [(.val (.int .u32 (a))),(.val (.int .i64 (n)))])∧
 (bif !gq a n
 then Q .ret [(.vec 2 (l) .none),(.fn (.func 91) [] [(.ptr 0 0)]),(.val (.int .i64 ((↑j:Int)))),(.val (.int .i64 ((↑(List.length l):Int)))),(.val (.int .i64 ((↑j:Int))))] ⟨[(.cells [(.fn (.func 64) [] [])]),(.cells [(.val (.int .u32 (a))),(.val (.int .i64 (n)))])], []⟩ [] 19
 else Q .normal [(.vec 2 (l) .none),(.fn (.func 91) [] [(.ptr 0 0)]),(.val (.int .i64 0)),(.val (.int .i64 ((↑(List.length l):Int)))),(.val (.int .i64 (IntKind.wrap IntKind.i64 ((↑j:Int)+(1:Int)))))] ⟨[(.cells [(.fn (.func 64) [] [])]),(.cells [(.val (.int .u32 (a))),(.val (.int .i64 (n)))])], []⟩ [] 19))
 else Q (.exit 0) [(.vec 2 (l) .none),(.fn (.func 91) [] [(.ptr 0 0)]),(.val (.int .i64 0)),(.val (.int .i64 ((↑(List.length l):Int)))),(.val (.int .i64 ((↑j:Int))))] ⟨[(.cells [(.fn (.func 64) [] [])])], []⟩ [] 19):=by kernel_rfl
theorem Fo (l:Bs) (Q:TV→VT→Prop):aq Try.prog ae (ax [(j3,BO)]) aF 300 az 0 tP [.vec 2 l .none, .fn (.func 91) [] [.ptr 0 0]] mT Q=
 ((((@Eq (Bool) true true)∧
 (@Eq (Option VO) (.some (.cells [(.fn (.func 64) [] [])])) (.some (.cells [(.fn (.func 64) [] [])]))))∧
 xz (l))∧
 (bif ii l
 then (∀z:Nat,Q (.val (.bool true)) ⟨[(.cells [(.fn (.func 64) [] [])])], []⟩)
 else Q (.val (.bool false)) ⟨[(.cells [(.fn (.func 64) [] [])])], []⟩)):=by kernel_rfl
theorem Fp (a b:Bs) (tok tok1 tok2:Tok) (Q:TV→VT→Prop):aq Try.prog ae (ax [(mQ,xB),(tP,xA)]) aF 300 az 0 tQ [oJ, .vec 1 [[.vec 2 a tok1], [.vec 2 b tok2]] tok] ⟨[], []⟩ Q=
 ((mR (a)∧
 mR (b))∧
 ((((@Eq (Bool) true true)∧
 (@Eq (Option VO) (.some (.cells [(.fn (.func 64) [] [])])) (.some (.cells [(.fn (.func 64) [] [])]))))∧
 xz (a++b))∧
 Q (.val (.bool (!ii (a++b)))) ⟨[(.cells [(.fn (.func 64) [] [])])], []⟩)):=by kernel_rfl
theorem Hl (w p n:Bs) (o h m:Int) (hm ok ok2:Bool) (Q:TV→VT→Prop):aq Try.prog ae (ax [(tQ,xC),(pI,rA ok),(mO,vR ok2)]) (aG [(999998, .dead,none)]) 300 az 0 H4 [.agg [.vec 2 w .none, .val (.int .i64 o), .vec 1 p .none, .val (.int .u32 h), .val (.int .i64 m), .val (.bool hm), .vec 2 n .none]] ⟨[], []⟩ Q=
 ((mR (w)∧
 mR (n))∧
 (bif !!ii (w++n)
 then Q (.val (.bool false)) ⟨[(.cells [(.vec 2 (w) .none),(.val (.int .i64 (o))),(.vec 1 (p) .none),(.val (.int .u32 (h))),(.val (.int .i64 (m))),(.val (.bool (hm))),(.vec 2 (n) .none)])], []⟩
 else (bif decide ((↑(List.length n):Int)>(0:Int))
 then (xw [(.val (.int .i64 (o))),(.vec 1 (p) .none),(.val (.int .u32 (h))),(.val (.int .i64 (m))),(.val (.bool (hm)))] (ok)∧
 Q (.val (.bool (ok))) ⟨[(.cells [(.vec 2 (w) .none),(.val (.int .i64 (o))),(.vec 1 (p) .none),(.val (.int .u32 (h))),(.val (.int .i64 (m))),(.val (.bool (hm))),(.vec 2 (n) .none)])], []⟩)
 else (BL [(.val (.int .i64 (o))),(.vec 1 (p) .none),(.val (.int .u32 (h))),(.val (.int .i64 (m))),(.val (.bool (hm)))] [(.val (.int .i64 0)),(.val (.slice .none 0 0)),(.val (.int .u32 0)),(.val (.int .i64 0)),(.val (.bool false))] (ok2)∧
 Q (.val (.bool (ok2))) ⟨[(.cells [(.vec 2 (w) .none),(.val (.int .i64 (o))),(.vec 1 (p) .none),(.val (.int .u32 (h))),(.val (.int .i64 (m))),(.val (.bool (hm))),(.vec 2 (n) .none)])], []⟩)))):=by kernel_rfl
theorem Hm (b:Bs) (v:Bs) (e:Nat) (Q:TV→VT→Prop):aq Try.prog ae (ax [(je,tV .i64 2)]) (aG [(7, .vec 1 v (.tail 0 e),some fun T=>{T with tails:= [(e,1,false)]})]) 300 az 0 tR [.vec 1 b .none] ⟨[], []⟩ Q=
 ((@Eq (IntKind) .i64 .i64)∧
 (ef ((↑(List.length b):Int)) 2∧
 (aZ Try.prog (fun _=> .none) 0 ⟨[], [(0,(1,false))]⟩ (.call ⟨(.builtin .append), #[(.tmp 5),(.tmp 6)], #[108,108]⟩) [(5,(.vec 1 (aL (2:Int) (↑(List.length b):Int)) (.tail 0 0))),(6,(.vec 1 (b) .none))] (.vec 1 (v) (.tail 0 (e))) ⟨[], [((e),(1,false))]⟩∧
 Q (.vec 1 (v) (.tail 0 (e))) ⟨[], [((e),(1,false))]⟩))):=by kernel_rfl
theorem Fq (v:Bs) (e:Nat) (Q:TV→VT→Prop):aq Try.prog ae (ax [(je,tV .i64 2)]) (aG [(7, .vec 1 v (.tail 0 e),some fun T=>{T with tails:= [(e,1,false)]})]) 300 az 0 tR [.val (.slice none 0 0)] ⟨[], []⟩ Q=
 ((@Eq (IntKind) .i64 .i64)∧
 (ef 0 2∧
 (aZ Try.prog (fun _=> .none) 0 ⟨[], [(0,(1,false))]⟩ (.call ⟨(.builtin .append), #[(.tmp 5),(.tmp 6)], #[108,108]⟩) [(5,(.vec 1 (aL (2:Int) (↑(0:Nat):Int)) (.tail 0 0))),(6,(.val (.slice .none 0 0)))] (.vec 1 (v) (.tail 0 (e))) ⟨[], [((e),(1,false))]⟩∧
 Q (.vec 1 (v) (.tail 0 (e))) ⟨[], [((e),(1,false))]⟩))):=by kernel_rfl
theorem Hn (w p n v:Bs) (o h m:Int) (hm:Bool) (Q:TV→VT→Prop):aq Try.prog ae (ax [(ze,CA v),(jf,CB),(tR,CC),(vO,xD)]) (aG [(999998, .dead,none)]) 300 az 0 H5 [.agg [.vec 2 w .none, .val (.int .i64 o), .vec 1 p .none, .val (.int .u32 h), .val (.int .i64 m), .val (.bool hm), .vec 2 n .none]] ⟨[], []⟩ Q=
 (bif decide ((↑(List.length n):Int)>(0:Int))
 then (Fi [(.val (.int .i64 (o))),(.vec 1 (p) .none),(.val (.int .u32 (h))),(.val (.int .i64 (m))),(.val (.bool (hm)))] (v)∧
 (tT (w)∧
 (((@Eq (Option TV) (.some (.vec 2 (n) .none)) (.some (.vec 2 (n) .none)))∧
 ((@Eq (Option TV) (.some (.vec 2 (w) .none)) (.some (.vec 2 (w) .none)))∧
 True))∧
 (qI (fR w)∧
 (((@Eq (Option TV) (.some (.vec 2 (n) .none)) (.some (.vec 2 (n) .none)))∧
 ((@Eq (Option TV) (.some (.vec 2 (w) .none)) (.some (.vec 2 (w) .none)))∧
 True))∧
 (qI (v)∧
 (((@Eq (Option TV) (.some (.vec 2 (n) .none)) (.some (.vec 2 (n) .none)))∧
 ((@Eq (Option TV) (.some (.vec 2 (w) .none)) (.some (.vec 2 (w) .none)))∧
 True))∧
 (tT (n)∧
 (tU (aL (2:Int) (↑(List.length (fR w)):Int)++fR w) (aL (2:Int) (↑(List.length v):Int)++v) (fR n)∧
 Q (.vec 1 (aL (2:Int) (↑(List.length (fR w)):Int)++fR w++(aL (2:Int) (↑(List.length v):Int)++v++fR n)) .none) ⟨[(.cells [(.vec 2 (w) .none),(.val (.int .i64 (o))),(.vec 1 (p) .none),(.val (.int .u32 (h))),(.val (.int .i64 (m))),(.val (.bool (hm))),(.vec 2 (n) .none)])], []⟩)))))))))
 else (tT (w)∧
 (((@Eq (Option TV) (.some (.vec 2 (n) .none)) (.some (.vec 2 (n) .none)))∧
 ((@Eq (Option TV) (.some (.vec 2 (w) .none)) (.some (.vec 2 (w) .none)))∧
 True))∧
 (qI (fR w)∧
 (((@Eq (Option TV) (.some (.vec 2 (n) .none)) (.some (.vec 2 (n) .none)))∧
 ((@Eq (Option TV) (.some (.vec 2 (w) .none)) (.some (.vec 2 (w) .none)))∧
 True))∧
 (((@Eq (Option TV) (.some (.vec 2 (n) .none)) (.some (.vec 2 (n) .none)))∧
 ((@Eq (Option TV) (.some (.vec 2 (w) .none)) (.some (.vec 2 (w) .none)))∧
 True))∧
 (tT (n)∧
 (tU (aL (2:Int) (↑(List.length (fR w)):Int)++fR w) (aL (2:Int) (0:Int)) (fR n)∧
 Q (.vec 1 (aL (2:Int) (↑(List.length (fR w)):Int)++fR w++(aL (2:Int) (0:Int)++fR n)) .none) ⟨[(.cells [(.vec 2 (w) .none),(.val (.int .i64 (o))),(.vec 1 (p) .none),(.val (.int .u32 (h))),(.val (.int .i64 (m))),(.val (.bool (hm))),(.vec 2 (n) .none)])], []⟩)))))))):=by kernel_rfl
theorem Ho (q r s:List TV) (a b c:Bs) (k k2:Nat) (tok tok1 tok2 tok3:Tok) (y3:TV) (T0 T1 T2 T3:VT) (Q:TV→VT→Prop):aq Try.prog ae (ax [(tM,zp (.row 1 0 0 0) T0)]) (Cz (.row 1 1 0 k) (.row 1 2 0 k2) y3 T1 T2 T3) 300 az 0 vO [.vec 1 [[.vec 1 (q::a) tok1], [.vec 1 (r::b) tok2], [.vec 1 (s::c) tok3]] tok] ⟨[], []⟩ Q=
 (bif decide (IntKind.wrap IntKind.i64 ((0:Int)+(↑(List.length (q::a)):Int))<(0:Int))
 then False
 else (bif decide (IntKind.wrap IntKind.i64 (IntKind.wrap IntKind.i64 ((0:Int)+(↑(List.length (q::a)):Int))+(↑(List.length (r::b)):Int))<(0:Int))
 then False
 else (bif decide (IntKind.wrap IntKind.i64 (IntKind.wrap IntKind.i64 (IntKind.wrap IntKind.i64 ((0:Int)+(↑(List.length (q::a)):Int))+(↑(List.length (r::b)):Int))+(↑(List.length (s::c)):Int))<(0:Int))
 then False
 else (tN (IntKind.wrap IntKind.i64 (IntKind.wrap IntKind.i64 (IntKind.wrap IntKind.i64 ((0:Int)+(↑(List.length (q::a)):Int))+(↑(List.length (r::b)):Int))+(↑(List.length (s::c)):Int))) (.row 1 0 0 0) (T0) 0 ⟨[], []⟩∧
 (aZ Try.prog (fun _=> .none) 0 (T0) (.call ⟨(.builtin .append), #[(.tmp 31),(.tmp 32)], #[108,108]⟩) [(31,(.row 1 0 0 0)),(32,(.vec 1 ([(q)]++a) (tok1)))] (.row 1 1 0 (k)) (T1)∧
 (aZ Try.prog (fun _=> .none) 0 (T1) (.call ⟨(.builtin .append), #[(.tmp 31),(.tmp 32)], #[108,108]⟩) [(31,(.row 1 1 0 (k))),(32,(.vec 1 ([(r)]++b) (tok2)))] (.row 1 2 0 (k2)) (T2)∧
 (aZ Try.prog (fun _=> .none) 0 (T2) (.call ⟨(.builtin .append), #[(.tmp 31),(.tmp 32)], #[108,108]⟩) [(31,(.row 1 2 0 (k2))),(32,(.vec 1 ([(s)]++c) (tok3)))] (y3) (T3)∧
 Q (y3) (T3)))))))):=by kernel_rfl
theorem Fr (q r:List TV) (a b:Bs) (k k2:Nat) (tok tok1 tok2 tok3:Tok) (y3:TV) (T0 T1 T2 T3:VT) (Q:TV→VT→Prop):aq Try.prog ae (ax [(tM,zp (.row 1 0 0 0) T0)]) (Cz (.row 1 1 0 k) (.row 1 2 0 k2) y3 T1 T2 T3) 300 az 0 vO [.vec 1 [[.vec 1 (q::a) tok1], [.vec 1 (r::b) tok2], [.vec 1 [] tok3]] tok] ⟨[], []⟩ Q=
 (bif decide (IntKind.wrap IntKind.i64 ((0:Int)+(↑(List.length (q::a)):Int))<(0:Int))
 then False
 else (bif decide (IntKind.wrap IntKind.i64 (IntKind.wrap IntKind.i64 ((0:Int)+(↑(List.length (q::a)):Int))+(↑(List.length (r::b)):Int))<(0:Int))
 then False
 else (bif decide (IntKind.wrap IntKind.i64 (IntKind.wrap IntKind.i64 (IntKind.wrap IntKind.i64 ((0:Int)+(↑(List.length (q::a)):Int))+(↑(List.length (r::b)):Int))+(↑(0:Nat):Int))<(0:Int))
 then False
 else (tN (IntKind.wrap IntKind.i64 (IntKind.wrap IntKind.i64 (IntKind.wrap IntKind.i64 ((0:Int)+(↑(List.length (q::a)):Int))+(↑(List.length (r::b)):Int))+(↑(0:Nat):Int))) (.row 1 0 0 0) (T0) 0 ⟨[], []⟩∧
 (aZ Try.prog (fun _=> .none) 0 (T0) (.call ⟨(.builtin .append), #[(.tmp 31),(.tmp 32)], #[108,108]⟩) [(31,(.row 1 0 0 0)),(32,(.vec 1 ([(q)]++a) (tok1)))] (.row 1 1 0 (k)) (T1)∧
 (aZ Try.prog (fun _=> .none) 0 (T1) (.call ⟨(.builtin .append), #[(.tmp 31),(.tmp 32)], #[108,108]⟩) [(31,(.row 1 1 0 (k))),(32,(.vec 1 ([(r)]++b) (tok2)))] (.row 1 2 0 (k2)) (T2)∧
 Q (.row 1 2 0 (k2)) (T2))))))):=by kernel_rfl
end
--MbI
section
open Go.RowKit

theorem BQ {b:Bs} (hb:IsB b) (hne:b≠ []) (tok:Tok) {n k:Nat} (hk:k≤8):VCx Try.prog ae 0 dK [.vec 1 b tok, .val (.int .u64 n), .val (.int .i64 k)] ⟨[], []⟩ fun x T' =>x= .vec 1 (b++nP k n) (.tail 0 0)∧T' =⟨[], [(0,1,false)]⟩:=by
  obtain ⟨⟨l,rfl,hl⟩,hlen⟩:=hb
  have hne2:l≠ []:=fun h=>hne (by rw [h];rfl)
  have hll:(bV l).length=l.length:=by simp [bV]
  rw [hll] at hlen
  have hvs:(dZ l++fH (c5 n k)).length=l.length+k:=by simp [dZ,fH,c5]
  have h:=VCx.ofOwnT (P:=Try.prog) (G:=ae) (f:=dK) (xs:= [.vec 1 (bV l) tok, .val (.int .u64 n), .val (.int .i64 k)]) (ty:=5) (vs:=dZ l++fH (c5 n k)) (fun v hv=> ?_) (by rw [hvs];unfold maxLen;omega) (fun g w us hx=> ?_)
  · refine h.mono ?_
    rintro x T' ⟨rfl,rfl⟩
    refine ⟨?_,rfl⟩
    rw [List.map_append,←gK,pF,←gK];rfl
  · rcases List.mem_append.1 hv with hv | hv
    · obtain ⟨z,_,rfl⟩:=List.mem_map.1 hv;rfl
    · obtain ⟨z,_,rfl⟩:=List.mem_map.1 hv;rfl
  · match us,hx.1 with
    | [v,u1,u2],_=>
      have hv:=hx.2 0 _ v rfl rfl
      obtain rfl:=(hx.2 1 _ u1 rfl rfl).val_inv
      obtain rfl:=(hx.2 2 _ u2 rfl rfl).val_inv
      have:=xq v l.length (dZ l) (fun u hu=>by obtain ⟨z,_,rfl⟩:=List.mem_map.1 hu;rfl) n k hk (by omega) w (yU hv hne2)
      rw [hvs];exact this
theorem zu {n k:Nat} (hk:k≤8):VCx Try.prog ae 0 dK [.val (.slice none 0 0), .val (.int .u64 n), .val (.int .i64 k)] ⟨[], []⟩ fun x T' =>x= .vec 1 (nP k n) (.tail 0 0)∧T' =⟨[], [(0,1,false)]⟩:=by
 have hvs:(fH (c5 n k)).length=k:=by simp [fH,c5]
 have h:=VCx.ofOwnT (P:=Try.prog) (G:=ae) (f:=dK) (xs:= [.val (.slice none 0 0), .val (.int .u64 n), .val (.int .i64 k)]) (ty:=5) (vs:=fH (c5 n k)) (fun v hv=>by obtain ⟨z,_,rfl⟩:=List.mem_map.1 hv;rfl) (by rw [hvs];unfold maxLen;omega) (fun g w us hx=> ?_)
 ·refine h.mono ?_
  rintro x T' ⟨rfl,rfl⟩
  refine ⟨?_,rfl⟩
  rw [pF,←gK];rfl
 ·match us,hx.1 with
  | [v,u1,u2],_=>
   obtain rfl:=(hx.2 0 _ v rfl rfl).val_inv
   obtain rfl:=(hx.2 1 _ u1 rfl rfl).val_inv
   obtain rfl:=(hx.2 2 _ u2 rfl rfl).val_inv
   have:=xq (.slice none 0 0) 0 [] (by simp) n k hk (by omega) w (Rd.nil w 1)
   rw [hvs]
   simpa using this
theorem BS:∀ro ys T K,pL ro ys T K→VCx Try.prog ae ro dK ys T K:=by
 intro ro ys T K hw
 unfold pL at hw
 split at hw
 ·rename_i x n k
  split at hw
  ·obtain ⟨⟨⟨h1,h1b⟩,h2,h3⟩,hk⟩:=hw
   obtain ⟨n,rfl⟩:=Int.eq_ofNat_of_zero_le h1
   obtain ⟨k,rfl⟩:=Int.eq_ofNat_of_zero_le h2
   have hb:IsB (nP k n):=tz (by omega)
   exact VCx.liftTail ap (zu (n:=n) (k:=k) (by omega)) (by simp only [av,TV.ren]) (fun f g=>hb.ren f g) hk
  ·rename_i b tok
   obtain ⟨⟨⟨⟨h1,h1b⟩,h2,h3⟩,hb,hne⟩,hk⟩:=hw
   obtain ⟨n,rfl⟩:=Int.eq_ofNat_of_zero_le h1
   obtain ⟨k,rfl⟩:=Int.eq_ofNat_of_zero_le h2
   exact VCx.liftTail ap (BQ (n:=n) (k:=k) hb hne (tok.ren (bb []) (bb [])) (by omega)) (by simp only [av,TV.ren,hb.ren]) (fun f g=>qF hb (cJ (k:=((k:Nat):Int)) ((n:Nat):Int) h3) f g) hk
  ·exact hw.elim
 ·exact hw.elim
theorem zv:aY Try.prog ae (ax [(dK,pL)]):=aA fun p hp=>by obtain rfl:=List.mem_singleton.1 hp;exact BS
theorem BT {f:FuncId} {k:Int} (h0:∀{n:Int},0≤n→n≤1000000000000000→VCx Try.prog ae 0 f [.val (.slice none 0 0), .val (.int .i64 n)] ⟨[], []⟩ fun x T' =>x= .vec 1 (aL k n) (.tail 0 0)∧T' =⟨[], [(0,1,false)]⟩)
  (h1:∀{n:Int} {b:Bs} (tok:Tok),0≤n→n≤1000000000000000→IsB b→b≠ []→VCx Try.prog ae 0 f [.vec 1 b tok, .val (.int .i64 n)] ⟨[], []⟩ fun x T' =>x= .vec 1 (b++aL k n) (.tail 0 0)∧T' =⟨[], [(0,1,false)]⟩):
  ∀ro ys T K,tV .i64 k ro ys T K→VCx Try.prog ae ro f ys T K:=by
 intro ro ys T K hw
 unfold tV at hw
 split at hw
 ·rename_i x q n
  obtain ⟨rfl,hw⟩:=hw
  split at hw
  ·obtain ⟨⟨⟨g1,hn⟩,g2,g3⟩,hk⟩:=hw
   exact VCx.liftTail ap (h0 g1 hn) (by simp only [av,TV.ren]) (fun f g=>(cJ n g3).ren f g) hk
  ·rename_i b tok
   obtain ⟨⟨⟨⟨g1,hn⟩,g2,g3⟩,hb,hne⟩,hk⟩:=hw
   exact VCx.liftTail ap (h1 (tok.ren (bb []) (bb [])) g1 hn hb hne) (by simp only [av,TV.ren,hb.ren]) (fun f g=>qF hb (cJ n g3) f g) hk
  ·exact hw.elim
 ·exact hw.elim
theorem vT:∀ro ys T K,tV .i64 2 ro ys T K→VCx Try.prog ae ro je ys T K:=BT
 (fun g hn=>ai ac aa zv ag (BP _ _) (by rw [jH g hn];exact ⟨⟨⟨g,hn⟩,by decide,by decide⟩,rfl,rfl⟩))
 (fun tok g hn hb hne=>ai ac aa zv ag (DH _ tok _ _) (by rw [jH g hn];exact ⟨⟨⟨⟨g,hn⟩,by decide,by decide⟩,hb,hne⟩,rfl,rfl⟩))
theorem Fs:∀ro ys T K,BN ro ys T K→VCx Try.prog ae ro oE ys T K:=by
 intro ro ys T K hw
 unfold BN at hw
 split at hw
 ·rename_i a n
  have hm:nQ (pK n):=by unfold pK nQ;split<;>split<;>omega
  exact VCx.liftPure ap (VCx.keepQ 0 0 (Nat.le_refl _) (Nat.le_refl _) (ai ac aa (aA fun p hp=>by obtain rfl:=List.mem_singleton.1 hp;exact vC) ag (y0 a n _) ⟨hm,rfl,rfl⟩)) rfl (fun _ _=>rfl) hw
 ·exact hw.elim
theorem Ik (a n c p:Int):aT BinOp.eql (an (.agg #[.int .u32 a, .int .i64 n]) (.agg #[.int .u32 c, .int .i64 p]))=(decide (a=c)&&decide (n=p)):=by
 simp [aT,an,cY,ce,Bool.beq_eq_decide_eq]
theorem Ft (a n:Int):VCx Try.prog ae 0 tO [.agg [.val (.int .u32 a), .val (.int .i64 n)]] ⟨[], []⟩ fun x T' =>x= .val (.bool (gq a n))∧T' =⟨[], []⟩:=
 VCx.keepQ 0 0 (Nat.le_refl _) (Nat.le_refl _) (ai ac aa (aA fun p hp=>by obtain rfl:=List.mem_singleton.1 hp;exact Fs) ag (Hj a n _) ⟨⟨rfl,rfl,trivial⟩,by
  refine ⟨?_,by simp [VT.keep]⟩
  show TV.val (.bool _)=_
  rw [show aT BinOp.eql (an ((fun vs=>Value.agg (List.toArray vs)) ((fun x=>Value.int IntKind.u32 a::x) ((fun x=>Value.int IntKind.i64 n::x) []))) ((fun vs=>Value.agg (List.toArray vs)) ((fun x=>Value.int IntKind.u32 (tS a n)::x) ((fun x=>Value.int IntKind.i64 (pK n)::x) []))))=_ from Ik a n (tS a n) (pK n)]
  rfl⟩)
theorem zw:∀ro ys T K,vQ ro ys T K→VCx Try.prog ae ro tO ys T K:=by
 intro ro ys T K hw
 unfold vQ at hw
 split at hw
 ·exact VCx.liftPure ap (Ft _ _) rfl (fun _ _=>rfl) hw
 ·exact hw.elim
theorem zx {a n:Int} (h:gq a n=true):tD a n:=by
 unfold gq at h
 simp only [Bool.and_eq_true,decide_eq_true_eq] at h
 obtain ⟨h1,h2⟩:=h
 have hm:nQ n:=by unfold pK at h2;unfold nQ;split at h2<;>split at h2<;>omega
 refine ⟨?_,hm, ?_⟩
 ·rw [h1]
  unfold tS Cp
  simp only [IntKind.wrap,IntKind.bits,IntKind.signed]
  simp
  omega
 ·unfold tS at h1
  rw [←h2] at h1
  exact h1.symm
theorem nv (l:List (Int × Int)):Cy (au l)=l:=by
 unfold Cy au
 rw [List.map_map]
 exact (List.map_congr_left fun p _=>rfl).trans (List.map_id l)
theorem bv (l:List (Int × Int)):(au l).length=l.length:=List.length_map _
theorem vU (l:List (Int × Int)):ii (au l)= !l.all fun p=>gq p.1 p.2:=by unfold ii;rw [nv]
theorem DJ {l:List (Int × Int)} (hn:l.length≤2000000):gH Try.prog ae (H6 (au l) (!ii (au l)) (am Try.prog j3 0)):=bf fun p hp=>by
  obtain rfl:=List.mem_singleton.1 hp
  have hS:aY Try.prog ae (ax [(tO,vQ)]):=aA fun p hp=>by obtain rfl:=List.mem_singleton.1 hp;exact zw
  rw [vU,Bool.not_not]
  refine bq fun K hK=> ?_
  refine cH (f:=j3) (id:=0) (by kernel_rfl) 19 vS (fun j:Nat=>l.length-j) (fun j:Nat=>rD (au l) 0 j) (fun _=>mT) (fun j=>j≤l.length∧((l.take j).all fun p=>gq p.1 p.2)=true) 1 0 (fun _ _=>⟨Nat.le_refl _,Nat.le_refl _⟩)
    (fun e vs T=>(e= .normal∧(l.all fun p=>gq p.1 p.2)=true∧vs=rD (au l) 0 (au l).length∧T=mT)∨(e= .ret∧(l.all fun p=>gq p.1 p.2)=false∧∃(z:Nat) (a n:Int),vs=rD (au l) z z∧T=⟨[.cells [oJ], .cells [.val (.int .u32 a), .val (.int .i64 n)]], []⟩)) (fun j hj=> ?_) 0 ⟨Nat.zero_le _,rfl⟩ K ?_
  · obtain ⟨hj,hall⟩:=hj
    by_cases hlt:j<l.length
    · have hat:(au l)[((j:Nat):Int).toNat]?=some (cE l[j]):=by rw [Int.toNat_natCast];show (l.map _)[j]?=_;rw [List.getElem?_map,List.getElem?_eq_getElem hlt];rfl
      refine bh ac aa hS ag (zt (au l) l[j].1 l[j].2 j _) ?_
      refine be (decide_eq_true (by rw [bv];omega)) ⟨tF rfl rfl (by omega) hat, ?_⟩
      cases hg:gq l[j].1 l[j].2
      · refine be rfl ⟨rfl,rfl, .inr ⟨rfl, ?_,j,l[j].1,l[j].2,rfl,rfl⟩⟩
        cases hc:l.all fun p=>gq p.1 p.2
        · rfl
        · have:=List.all_eq_true.1 hc _ (List.getElem_mem hlt);rw [hg] at this;cases this
      · refine aI rfl ⟨rfl,rfl,j+1,⟨hlt, ?_⟩,by show l.length-(j+1)<l.length-j;omega, .inr ⟨rfl, ?_⟩⟩
        · rw [List.take_add_one,List.getElem?_eq_getElem hlt,List.all_append,hall]
          simp only [Option.toList_some,List.all_cons,List.all_nil,Bool.and_true,Bool.true_and]
          exact hg
        · show av _ _ _=_
          rw [sc hlt hn]
          simp only [av,TV.ren,Tok.ren,show bu (aw 1) (aw 0) (au l)=au l from jc _ _ l]
          rfl
    · have hj2:j=l.length:=by omega
      subst hj2
      rw [List.take_length] at hall
      refine bh ac aa hS ag (zt (au l) 0 0 l.length _) ?_
      exact aI (decide_eq_false (by rw [bv];omega)) ⟨rfl,rfl, .inl ⟨rfl,hall,by simp only [rD,bv],rfl⟩⟩
  · rintro e vs T (⟨rfl,h1,rfl,rfl⟩ | ⟨rfl,h1,z,a,n,rfl,rfl⟩)
    · have:=hK 0 0 0;rw [h1] at this;exact this
    · have:=hK z a n;rw [h1] at this;exact this
theorem Fu {l:List (Int × Int)} (hn:l.length≤2000000):VCx Try.prog ae 0 j3 [.vec 2 (au l) .none, .fn (.func Fg) [] [.ptr 0 0]] mT fun x T' =>(bif ii (au l) then ∃z:Nat,x= .val (.int .i64 (Int.ofNat z)) else x= .val (.int .i64 (-1)))∧T' =mT:=by
 refine VCx.keepQ 1 0 (Nat.le_refl _) (Nat.le_refl _) (ai ac aa ah (DJ hn) (Hk (au l) (!ii (au l)) _) ⟨rfl,⟨rfl,rfl,rfl,trivial,rfl,rfl,rfl⟩,fun z a n=> ?_⟩)
 cases h:ii (au l)
 ·exact ⟨rfl,rfl⟩
 ·exact ⟨⟨z,rfl⟩,rfl⟩
theorem cM (f g:Nat→Option Nat) (l:List (Int × Int)):bu f g (au l)=au l:=jc f g l
theorem DK:∀ro ys T K,BO ro ys T K→VCx Try.prog ae ro j3 ys T K:=by
 intro ro ys T K hw
 unfold BO at hw
 split at hw
 ·rename_i l tok i
  obtain ⟨⟨⟨hro,ho⟩,p,rfl,hp⟩,hk⟩:=hw
  refine VCx.atKeep ap (Nat.le_of_ble_eq_true hro) ho rfl (fun _ _=>rfl) ?_ (Fu hp) fun x hx=> ?_
  ·simp only [av,TV.ren,cM]
   exact ⟨.vec _ _ _,by simp [bb];exact .refl _,trivial⟩
  ·cases hb:ii (au p)<;>rw [hb] at hx hk
   ·subst hx;exact ⟨fun _ _=>rfl,hk⟩
   ·obtain ⟨z,rfl⟩:=hx;exact ⟨fun _ _=>rfl,hk z⟩
 ·exact hw.elim
theorem DL {l:List (Int × Int)} (hn:l.length≤2000000):VCx Try.prog ae 0 tP [.vec 2 (au l) .none, .fn (.func Fg) [] [.ptr 0 0]] mT fun x T' =>x= .val (.bool (ii (au l)))∧T' =mT:=by
 refine VCx.keepQ 1 0 (Nat.le_refl _) (Nat.le_refl _) (ai ac aa (aA fun p hp=>by obtain rfl:=List.mem_singleton.1 hp;exact DK) ag (Fo (au l) _) ⟨⟨⟨rfl,rfl⟩,l,rfl,hn⟩, ?_⟩)
 cases h:ii (au l)
 ·exact ⟨rfl,rfl⟩
 ·exact fun z=>⟨rfl,rfl⟩
theorem DM:∀ro ys T K,xA ro ys T K→VCx Try.prog ae ro tP ys T K:=by
 intro ro ys T K hw
 unfold xA at hw
 split at hw
 ·rename_i l tok i
  obtain ⟨⟨⟨hro,ho⟩,p,rfl,hp⟩,hk⟩:=hw
  refine VCx.atKeep ap (Nat.le_of_ble_eq_true hro) ho rfl (fun _ _=>rfl) ?_ (DL hp) fun x hx=> ?_
  ·simp only [av,TV.ren,cM]
   exact ⟨.vec _ _ _,by simp [bb];exact .refl _,trivial⟩
  ·subst hx;exact ⟨fun _ _=>rfl,hk⟩
 ·exact hw.elim
def zP (n:Nat):List TV:=(Builtin.zeroCells (Value.agg #[.int .u32 0, .int .i64 0]).cells n).toList.map .val
theorem Fv (f g:Nat→Option Nat) (n:Nat):av f g (zP n)=zP n:=l8 _ _ _
theorem DN {n:Int} (h0:0<n) (h1:n≤2000000):VCx Try.prog ae 0 mP [.val (.slice none 0 0), .val (.int .i64 n)] ⟨[], []⟩ fun x T1=>x= .row 2 0 0 0∧T1=⟨[.row (zP n.toNat)], []⟩:=by
 obtain ⟨inf,i1,i2,i3,i4⟩:=oF
 refine ai ac aa ah ag (zr n n.toNat (zP n.toNat) ⟨[], []⟩ _) ?_
 have e:IntKind.wrap IntKind.i64 (n-IntKind.wrap IntKind.i64 (((0:Nat):Int)-((0:Nat):Int)))=n:=by
  rw [show IntKind.wrap IntKind.i64 (((0:Nat):Int)-((0:Nat):Int))=0 from rfl,Int.sub_zero,fg (by omega) (by omega)]
 refine aI (decide_eq_false (by omega)) (be (decide_eq_true (by rw [e];exact h0)) ⟨?_,rfl,rfl⟩)
 rw [e]
 have hb:n.toNat*(inf.bytes+1)≤140737488355328:=by
  have:=Nat.mul_le_mul (show n.toNat≤2000000 by omega) i3
  omega
 have h:=pE (P:=Try.prog) (G:=ae) (ro:=0) (T:=⟨[], []⟩) (t:=42) (tn:=3) (s:= .tmp 20) (x:= .tmp 21) (l:= [(20, .val (.slice none 0 0)),(21, .val (.int .i64 n))]) (inf:=inf) (m:=n) Try.underlying42 Try.underlying3 i1 i4 (by rw [i2];rfl) (by rw [i2];decide) rfl rfl rfl h0 hb
 rw [i2] at h
 exact h
theorem tW {n:Int} (h0:0<n) (h1:n≤2000000) (ro:Nat) (T:VT):ir n (.row 2 T.objs.length 0 0) {T with objs:=T.objs++ [.row (zP n.toNat)]} ro T:=by
 unfold ir
 refine (VCx.lift (T:=T) [] [] ap List.nodup_nil List.nodup_nil (by simp) (by simp) (by simp) rfl (by rw [VT.give_nil];exact DN h0 h1) (fun _ _ _=>⟨Nat.zero_le _,Nat.zero_le _⟩)).mono ?_
 rintro z T' ⟨x,T'',⟨rfl,rfl⟩,rfl,rfl⟩
 refine ⟨by simp [TV.ren,aO], ?_⟩
 rw [VT.back_nil]
 simp [VO.ren,Fv]
theorem DO (ro:Nat) (T:VT):ir 0 (.val (.slice none 0 0)) T ro T:=by
 unfold ir
 exact VCx.liftPure (y:= .val (.slice none 0 0)) ap (ai ac aa ah ag (zr 0 0 [] ⟨[], []⟩ _) ⟨rfl,rfl⟩) rfl (fun _ _=>rfl) ⟨rfl,rfl⟩
theorem sd {gy:TV} {gT:VT}:aY Try.prog ae (ax [(mP,oI gy gT)]):=aA fun p hp=>by
 obtain rfl:=List.mem_singleton.1 hp
 intro ro ys T K hw
 replace hw:oI gy gT ro ys T K:=hw
 unfold oI at hw
 split at hw
 ·obtain ⟨h,hk⟩:=hw
  exact VCx.mono h fun x T1 ⟨h1,h2⟩=>by subst h1 h2;exact hk
 ·exact hw.elim
theorem H7 {e:TypeId} {t:TypeId} {inf:TypeInfo} {z:Value} {sz:Nat} (ht:Try.prog.underlying t=some (.slice e)) (hi:Try.prog.info? e=some inf) (hs:inf.size=sz) (hz:inf.zero=some z) (hzs:z.cells.size=sz) (hz1:z.cells.toList.all Value.oneCell' =true) (hbd:inf.bytes+1≤1000)
    {T:VT} {id n m:Nat} {cs cs' :List TV} {q:List TV} {a:Bs} {tok:Tok} (ho:T.objs[id]?=some (.row cs)) (hn:n*sz≤cs.length) (hb:n+a.length+1≤3000000) (hm:m=n+(a.length+1)) (hcs:cs' =cs.take (n*sz)++(q::a).flatten):
    aZ Try.prog ae 0 T (.call ⟨.builtin .append, #[.tmp 31, .tmp 32], #[t,t]⟩) [(31, .row sz id 0 n),(32, .vec sz (q::a) tok)] (.row sz T.objs.length 0 m) ((T.kill id).newRow cs'):=by
  subst hm hcs hs
  refine xp (P:=Try.prog) (G:=ae) (ro:=0) (T:=T) (t:=t) (tx:=t) (s:= .tmp 31) (x:= .tmp 32) (l:= [(31, .row inf.size id 0 n),(32, .vec inf.size (q::a) tok)]) (inf:=inf) (id:=id) (n:=n) (cs:=cs) (q0:=q) (qs:=a) ht hi hz hzs hz1 (by rw [ht];rfl) rfl ho (Nat.zero_le _) hn ?_ ?_
  · show bM T inf.size (.vec inf.size (q::a) tok)=_
    simp [bM]
  · have:=Nat.mul_le_mul (show n+(q::a).length≤3000000 by simp only [List.length_cons];omega) hbd
    omega
theorem CD {T:VT} {id n m:Nat} {cs cs' :List TV} {q:List TV} {a:Bs} {tok:Tok} (ho:T.objs[id]?=some (.row cs)) (hn:n*2≤cs.length) (hb:n+a.length+1≤3000000) (hm:m=n+(a.length+1)) (hcs:cs' =cs.take (n*2)++(q::a).flatten):
  aZ Try.prog ae 0 T (.call ⟨.builtin .append, #[.tmp 31, .tmp 32], #[42,42]⟩) [(31, .row 2 id 0 n),(32, .vec 2 (q::a) tok)] (.row 2 T.objs.length 0 m) ((T.kill id).newRow cs'):=by
 obtain ⟨inf,i1,i2,i3,i4⟩:=oF
 exact H7 Try.underlying42 i1 i2 i4 rfl (by decide) i3 ho hn hb hm hcs
theorem zy {T:VT} {id n m:Nat} {cs cs' :List TV} {q:List TV} {a:Bs} {tok:Tok} (ho:T.objs[id]?=some (.row cs)) (hn:n*1≤cs.length) (hb:n+a.length+1≤3000000) (hm:m=n+(a.length+1)) (hcs:cs' =cs.take (n*1)++(q::a).flatten):
  aZ Try.prog ae 0 T (.call ⟨.builtin .append, #[.tmp 31, .tmp 32], #[108,108]⟩) [(31, .row 1 id 0 n),(32, .vec 1 (q::a) tok)] (.row 1 T.objs.length 0 m) ((T.kill id).newRow cs'):=by
 obtain ⟨inf,i1,i2,i3,i4⟩:=jb
 exact H7 Try.underlying108 i1 i2 i4 rfl (by decide) (by omega) ho hn hb hm hcs
theorem wz {m:Nat} (hm:m≤3000000):IntKind.wrap IntKind.i64 ((0:Int)+(m:Int))=(m:Int):=by rw [Int.zero_add,fg (by omega) (by omega)]
theorem wa {a b:Nat} (h:a+b≤3000000):IntKind.wrap IntKind.i64 ((a:Int)+(b:Int))=((a+b:Nat):Int):=by rw [fg (by omega) (by omega)];omega
theorem mU {b:Nat}:decide (((b:Nat):Int)<0)=false:=decide_eq_false (by omega)
theorem vV:∀l:List (Int × Int),(au l).flatten.length=l.length*2:=fun l=>by
 rw [bd (size:=2) (fun e he=>by obtain ⟨p,_,rfl⟩:=List.mem_map.1 he;rfl),bv]
theorem Fw {a b:List (Int × Int)} {tok tok1 tok2:Tok} (ha:a.length≤100000) (hb:b.length≤100000):VCx Try.prog ae 0 mQ [.vec 1 [[.vec 2 (au a) tok1], [.vec 2 (au b) tok2]] tok] ⟨[], []⟩ fun x T' =>x= .vec 2 (au a++au b) .none∧T' =⟨[], []⟩:=by
 have hz:∀l:List (Int × Int),∀e∈au l,e.length=2:=fun l e he=>by obtain ⟨p,_,rfl⟩:=List.mem_map.1 he;rfl
 have hza:∀e∈au a++au b,e.length=2:=fun e he=>by rcases List.mem_append.1 he with h | h<;>exact hz _ e h
 have hren:∀f g,bu f g (au a++au b)=au a++au b:=fun f g=>by rw [bO,List.map_append,←bO,←bO,cM,cM]
 cases a with
 | nil=>
  cases b with
  | nil=>exact VCx.toLe (Q:=fun T' =>T' =⟨[], []⟩) (ai ac aa sd ag (Fm tok tok1 tok2 _) ⟨DO _ _, .nil 2,rfl⟩)
  | cons r b=>
   refine VCx.freezeRow hren (ai ac aa sd ag (Fl (cE r) (au b) (b.length+1) (zP (b.length+1)) tok tok1 tok2 ⟨[.gone, .row (au (r::b)).flatten], []⟩ _) ?_)
   have w0:IntKind.wrap IntKind.i64 ((0:Int)+((0:Nat):Int))=((0:Nat):Int):=rfl
   have hlen:(cE r::au b).length=b.length+1:=by rw [List.length_cons,bv]
   rw [w0,hlen,wa (by simp only [List.length_cons] at hb;omega),Nat.zero_add]
   refine aI mU ⟨tW (n:=((b.length+1:Nat):Int)) (by omega) (by simp only [List.length_cons] at hb;omega) 0 ⟨[], []⟩, ?_,gg rfl hza ?_⟩
   ·exact CD (q:=cE r) (a:=au b) (n:=0) (cs:=zP (b.length+1)) rfl (by omega) (by rw [bv];simp only [List.length_cons] at hb;omega) (by rw [bv,Nat.zero_add]) (by rw [Nat.zero_mul,List.take_zero];rfl)
   ·simp [au]
 | cons q a=>
  have hlen:(cE q::au a).length=a.length+1:=by rw [List.length_cons,bv]
  cases b with
  | nil=>
   refine VCx.freezeRow hren (ai ac aa sd ag (Fk (cE q) (au a) (a.length+1) (zP (a.length+1)) tok tok1 tok2 ⟨[.gone, .row (au (q::a)).flatten], []⟩ _) ?_)
   have hb2:a.length+1≤100000:=by simpa using ha
   rw [hlen,wz (by omega),wa (by omega),Nat.add_zero]
   refine aI mU (aI mU ⟨tW (n:=((a.length+1:Nat):Int)) (by omega) (by omega) 0 ⟨[], []⟩, ?_,gg (by simp [au]) hza ?_⟩)
   ·exact CD (q:=cE q) (a:=au a) (n:=0) (cs:=zP (a.length+1)) rfl (by omega) (by rw [bv];omega) (by rw [bv,Nat.zero_add]) (by rw [Nat.zero_mul,List.take_zero];rfl)
   ·simp [au]
  | cons r b=>
   have hlen2:(cE r::au b).length=b.length+1:=by rw [List.length_cons,bv]
   have hb2:a.length+1≤100000:=by simpa using ha
   have hb3:b.length+1≤100000:=by simpa using hb
   refine VCx.freezeRow hren (ai ac aa sd ag (DI (cE q) (cE r) (au a) (au b) (a.length+1) [] tok tok1 tok2 (.row 2 2 0 ((a.length+1)+(b.length+1))) ⟨[.row (zP ((a.length+1)+(b.length+1)))], []⟩ ⟨[.gone, .row (au (q::a)).flatten], []⟩ ⟨[.gone, .gone, .row ((au (q::a)).flatten++(au (r::b)).flatten)], []⟩ _) ?_)
   rw [hlen,hlen2,wz (by omega),wa (by omega)]
   refine aI mU (aI mU ⟨tW (n:=(((a.length+1)+(b.length+1):Nat):Int)) (by omega) (by omega) 0 ⟨[], []⟩, ?_, ?_,gg (by simp [au]) hza ?_⟩)
   ·exact CD (q:=cE q) (a:=au a) (n:=0) (cs:=zP ((a.length+1)+(b.length+1))) rfl (by omega) (by rw [bv];omega) (by rw [bv,Nat.zero_add]) (by rw [Nat.zero_mul,List.take_zero];rfl)
   ·exact CD (q:=cE r) (a:=au b) (T:=⟨[.gone, .row (au (q::a)).flatten], []⟩) (id:=1) (n:=a.length+1) (cs:=(au (q::a)).flatten) rfl (by rw [vV];simp) (by rw [bv];omega) (by rw [bv]) (by rw [List.take_of_length_le (by rw [vV];simp)];rfl)
   ·simp [au];omega
theorem DP:∀ro ys T K,xB ro ys T K→VCx Try.prog ae ro mQ ys T K:=by
 intro ro ys T K hw
 unfold xB at hw
 split at hw
 ·rename_i a tok1 b tok2 tok
  obtain ⟨⟨⟨a,rfl,ha⟩,b,rfl,hb⟩,hk⟩:=hw
  refine VCx.liftPure ap (Fw ha hb) (by simp only [av,bu,TV.ren,cM];rfl) (fun f g=> ?_) hk
  simp only [TV.ren,Tok.ren]
  rw [bO,List.map_append,←bO,←bO,cM,cM]
 ·exact hw.elim
theorem qJ (a b:List (Int × Int)):au a++au b=au (a++b):=(List.map_append ..).symm
theorem DQ {a b:List (Int × Int)} {tok tok1 tok2:Tok} (ha:a.length≤100000) (hb:b.length≤100000):VCx Try.prog ae 0 tQ [oJ, .vec 1 [[.vec 2 (au a) tok1], [.vec 2 (au b) tok2]] tok] ⟨[], []⟩ fun x T' =>x= .val (.bool (!ii (au a++au b)))∧T' =⟨[], []⟩:=by
 have hS:aY Try.prog ae (ax [(mQ,xB),(tP,xA)]):=aA fun p hp=>by
  rcases List.mem_cons.1 hp with rfl | hp;exact DP
  obtain rfl:=List.mem_singleton.1 hp;exact DM
 exact VCx.keepQ 0 0 (Nat.le_refl _) (Nat.le_refl _) (ai ac aa hS ag (Fp (au a) (au b) tok tok1 tok2 _) ⟨⟨⟨a,rfl,ha⟩,b,rfl,hb⟩,⟨⟨rfl,rfl⟩,a++b,qJ a b,by rw [List.length_append];omega⟩,rfl,rfl⟩)
theorem DR:∀ro ys T K,xC ro ys T K→VCx Try.prog ae ro tQ ys T K:=by
 intro ro ys T K hw
 unfold xC at hw
 split at hw
 ·rename_i a tok1 b tok2 tok
  obtain ⟨⟨⟨a,rfl,ha⟩,b,rfl,hb⟩,hk⟩:=hw
  exact VCx.liftPure ap (DQ ha hb) (by simp only [av,bu,TV.ren,cM];rfl) (fun _ _=>rfl) hk
 ·exact hw.elim
end
--MbJ
section
open Go.RowKit

theorem DS {b:Bs} (h:IsB b):∀e∈b,e.length=1:=h.len1
theorem Fx {a b c:Bs} {tok tok1 tok2 tok3:Tok} (h:tU a b c):VCx Try.prog ae 0 vO [.vec 1 [[.vec 1 a tok1], [.vec 1 b tok2], [.vec 1 c tok3]] tok] ⟨[], []⟩ fun x T' =>x= .vec 1 (a++(b++c)) .none∧T' =⟨[], []⟩:=by
 obtain ⟨⟨ha,hane⟩,⟨hb,hbne⟩,hc,hl⟩:=h
 have hbc:IsB (b++c):=IsB.append hb hc (by rw [List.length_append];omega)
 have habc:IsB (a++(b++c)):=IsB.append ha hbc (by rw [List.length_append,List.length_append];omega)
 have hfa:=rC ha
 have hfb:=rC hb
 have hz:=DS habc
 match a,b,hane,hbne with
 | q::a,r::b,_,_=>
  have hz2:(zR ((q::a).length+(r::b).length)).length=_:=Fb _
  cases c with
  | nil=>
   refine VCx.freezeRow habc.ren (ai ac aa Ff ag (Fr q r a b (q::a).length ((q::a).length+(r::b).length) tok tok1 tok2 tok3 (.row 1 2 0 0) ⟨[.row (zR ((q::a).length+(r::b).length+0))], []⟩ ⟨[.gone, .row (q::a).flatten], []⟩ ⟨[.gone, .gone, .row ((q::a).flatten++(r::b).flatten)], []⟩ ⟨[], []⟩ _) ?_)
   rw [wz (by omega),wa (by omega),wa (by simp only [List.length_cons] at hl ⊢;omega)]
   refine aI mU (aI mU (aI mU ⟨Cx (n:=(((q::a).length+(r::b).length+0:Nat):Int)) (by simp only [List.length_cons];omega) (by omega) 0 ⟨[], []⟩, ?_, ?_,gg (by simp) hz (by simp;omega)⟩))
   ·exact zy (q:=q) (a:=a) (n:=0) (cs:=zR ((q::a).length+(r::b).length+0)) rfl (by omega) (by simp only [List.length_cons] at hl;omega) (by simp only [List.length_cons];omega) (by rw [Nat.zero_mul,List.take_zero];rfl)
   ·exact zy (q:=r) (a:=b) (T:=⟨[.gone, .row (q::a).flatten], []⟩) (id:=1) (n:=(q::a).length) (cs:=(q::a).flatten) rfl (by rw [hfa];omega) (by simp only [List.length_cons] at hl ⊢;omega) (by simp only [List.length_cons]) (by rw [List.take_of_length_le (by rw [hfa];omega)])
  | cons s c=>
   refine VCx.freezeRow habc.ren (ai ac aa Ff ag (Ho q r s a b c (q::a).length ((q::a).length+(r::b).length) tok tok1 tok2 tok3 (.row 1 3 0 ((q::a).length+(r::b).length+(s::c).length)) ⟨[.row (zR ((q::a).length+(r::b).length+(s::c).length))], []⟩ ⟨[.gone, .row (q::a).flatten], []⟩ ⟨[.gone, .gone, .row ((q::a).flatten++(r::b).flatten)], []⟩ ⟨[.gone, .gone, .gone, .row ((q::a).flatten++(r::b).flatten++(s::c).flatten)], []⟩ _) ?_)
   rw [wz (by omega),wa (by omega),wa (by omega)]
   refine aI mU (aI mU (aI mU ⟨Cx (n:=(((q::a).length+(r::b).length+(s::c).length:Nat):Int)) (by simp only [List.length_cons];omega) (by omega) 0 ⟨[], []⟩, ?_, ?_, ?_,gg (by simp) hz (by simp;omega)⟩))
   ·exact zy (q:=q) (a:=a) (n:=0) (cs:=zR ((q::a).length+(r::b).length+(s::c).length)) rfl (by omega) (by simp only [List.length_cons] at hl;omega) (by simp only [List.length_cons];omega) (by rw [Nat.zero_mul,List.take_zero];rfl)
   ·exact zy (q:=r) (a:=b) (T:=⟨[.gone, .row (q::a).flatten], []⟩) (id:=1) (n:=(q::a).length) (cs:=(q::a).flatten) rfl (by rw [hfa];omega) (by simp only [List.length_cons] at hl ⊢;omega) (by simp only [List.length_cons]) (by rw [List.take_of_length_le (by rw [hfa];omega)])
   ·exact zy (q:=s) (a:=c) (T:=⟨[.gone, .gone, .row ((q::a).flatten++(r::b).flatten)], []⟩) (id:=2) (n:=(q::a).length+(r::b).length) (cs:=(q::a).flatten++(r::b).flatten) rfl (by rw [List.length_append,hfa,hfb];omega) (by simp only [List.length_cons] at hl ⊢;omega) (by simp only [List.length_cons]) (by rw [List.take_of_length_le (by rw [List.length_append,hfa,hfb];omega)])
theorem DT:∀ro ys T K,xD ro ys T K→VCx Try.prog ae ro vO ys T K:=by
 intro ro ys T K hw
 unfold xD at hw
 split at hw
 ·rename_i a tok1 b tok2 c tok3 tok
  obtain ⟨h,hk⟩:=hw
  have hbc:IsB (b++c):=IsB.append h.2.1.1 h.2.2.1 (by have:=h.2.2.2;rw [List.length_append];omega)
  have habc:IsB (a++(b++c)):=IsB.append h.1.1 hbc (by have:=h.2.2.2;rw [List.length_append,List.length_append];omega)
  exact VCx.liftPure ap (Fx h) (by simp only [av,bu,TV.ren,h.1.1.ren,h.2.1.1.ren,h.2.2.1.ren];rfl) (fun f g=>by simp only [TV.ren,habc.ren,Tok.ren]) hk
 ·exact hw.elim
theorem Fy {b:Bs} (hb:qI b):VCx Try.prog ae 0 tR [.vec 1 b .none] ⟨[], []⟩ fun x T' =>x= .vec 1 (aL 2 b.length++b) .none∧T' =⟨[], []⟩:=by
 have hp:=cJ (k:=2) (b.length:Int) (by decide)
 have hl:=bN (k:=2) (b.length:Int)
 have hi:=IsB.append hp hb.1 (by rw [List.length_append,hl];have:=hb.2;omega)
 refine VCx.toLe (Q:=fun T' =>T' =⟨[], []⟩) (VCx.keepQ 0 0 (Nat.le_refl _) (Nat.le_refl _) (ai ac aa (aA fun p hp=>by obtain rfl:=List.mem_singleton.1 hp;exact vT) ag (Hm b (aL 2 b.length++b) (0+b.length) _) ⟨rfl,⟨⟨by omega,by have:=hb.2;omega⟩,by decide,by decide⟩, ?_, ?_,rfl⟩))
 ·exact nq (ro:=0) (T:=⟨[], [(0,1,false)]⟩) (T1:=⟨[], [(0,1,false)]⟩) (s:= .tmp 5) (x:= .tmp 6) (l:= [(5, .vec 1 (aL 2 b.length) (.tail 0 0)),(6, .vec 1 b .none)]) (es:=aL 2 b.length) (es2:=b) (k:=0) (n:=0) (bn:=false) rfl rfl (by rw [hl];have:=hb.2;omega)
 ·simp only [TV.ren,hi.ren]
  exact .vec 1 _ _
theorem DU:VCx Try.prog ae 0 tR [.val (.slice none 0 0)] ⟨[], []⟩ fun x T' =>x= .vec 1 (aL 2 0) .none∧T' =⟨[], []⟩:=by
  have hp:=cJ (k:=2) 0 (by decide)
  refine VCx.toLe (Q:=fun T' =>T' =⟨[], []⟩) (VCx.keepQ 0 0 (Nat.le_refl _) (Nat.le_refl _) (ai ac aa (aA fun p hp=>by obtain rfl:=List.mem_singleton.1 hp;exact vT) ag (Fq (aL 2 0) 0 _) ⟨rfl,⟨⟨by decide,by decide⟩,by decide,by decide⟩, ?_, ?_,rfl⟩))
  · have h:=nq (ro:=0) (T:=⟨[], [(0,1,false)]⟩) (T1:=⟨[], [(0,1,false)]⟩) (s:= .tmp 5) (x:= .tmp 6) (l:= [(5, .vec 1 (aL 2 0) (.tail 0 0)),(6, .val (.slice none 0 0))]) (es:=aL 2 0) (es2:= []) (k:=0) (n:=0) (bn:=false) rfl rfl (by rw [bN];decide)
    rw [List.append_nil] at h
    exact h
  · simp only [TV.ren,hp.ren]
    exact .vec 1 _ _
theorem Fz:∀ro ys T K,CC ro ys T K→VCx Try.prog ae ro tR ys T K:=by
 intro ro ys T K hw
 unfold CC at hw
 split at hw
 ·exact VCx.liftPure ap DU rfl (fun f g=>by simp only [TV.ren,(cJ (k:=2) 0 (by decide)).ren,Tok.ren]) hw
 ·rename_i b tok
  obtain ⟨hb,hk⟩:=hw
  have hi:=IsB.append (cJ (k:=2) (b.length:Int) (by decide)) hb.1 (by rw [List.length_append,bN];have:=hb.2;omega)
  refine VCx.loosePure ap (Fy hb) (by simp [bH]) (by simp only [av,TV.ren,hb.1.ren,Tok.ren]) (fun f g=>by simp only [TV.ren,hi.ren,Tok.ren]) hk
 ·exact hw.elim
theorem zA (ok:Bool):∀ro ys T K,vR ok ro ys T K→VCx Try.prog ae ro mO ys T K:=by
 intro ro ys T K hw
 unfold vR at hw
 split at hw
 ·obtain ⟨⟨a,rfl,hn,rfl,rfl⟩,hk⟩:=hw
  refine VCx.liftPure ap (xs:= [.agg a.cells, .agg Fh]) (VCx.argsLe (xs:= [.agg a.cells, .agg bS.cells]) ?_ (zo a bS hn (Nat.zero_le _))) ?_ (fun _ _=>rfl) hk
  ·exact ⟨.refl _, .agg ⟨.refl _, .nil 1, .refl _, .refl _, .refl _,trivial⟩,trivial⟩
  ·simp only [av,TV.ren,a.ren];rfl
 ·exact hw.elim
theorem FA (ok:Bool):∀ro ys T K,zq ok ro ys T K→VCx Try.prog ae ro mO ys T K:=by
 intro ro ys T K hw
 unfold zq at hw
 split at hw
 ·obtain ⟨⟨a,b,⟨rfl,rfl⟩,⟨hn,hn2⟩,rfl⟩,hk⟩:=hw
  exact VCx.liftPure ap (zo a b hn hn2) (by simp only [av,TV.ren,a.ren,b.ren]) (fun _ _=>rfl) hk
 ·exact hw.elim
theorem FB (v:Bs):∀ro ys T K,CA v ro ys T K→VCx Try.prog ae ro ze ys T K:=by
 intro ro ys T K hw
 unfold CA at hw
 split at hw
 ·obtain ⟨⟨a,rfl,hn,hh,rfl⟩,hk⟩:=hw
  exact VCx.liftPure ap (E9 a hn hh) (by simp only [av,TV.ren,a.ren]) (fun f g=>by simp only [TV.ren,(tK a).ren,Tok.ren]) hk
 ·exact hw.elim
theorem FC:∀ro ys T K,CB ro ys T K→VCx Try.prog ae ro jf ys T K:=by
 intro ro ys T K hw
 unfold CB at hw
 split at hw
 ·obtain ⟨⟨p,rfl,hp⟩,hk⟩:=hw
  unfold fR at hk
  rw [nv] at hk
  exact VCx.loosePure ap (DB hp) (by simp [bH,au]) (by simp only [av,TV.ren,jc,Tok.ren]) (fun f g=>by simp only [TV.ren,(gL hp).ren,Tok.ren]) hk
 ·exact hw.elim
theorem FD {u:UpV} (hu:fj u):VCx Try.prog ae 0 H4 [.agg u.cells] ⟨[], []⟩ fun x T' =>x= .val (.bool (fS u))∧T' =⟨[], []⟩:=by
 obtain ⟨h1,h2,h3,h4,h5⟩:=hu
 have hS:aY Try.prog ae (ax [(tQ,xC),(pI,rA (dM u.a)),(mO,vR (decide (u.a=bS)))]):=aA fun p hp=>by
  rcases List.mem_cons.1 hp with rfl | hp;exact DR
  rcases List.mem_cons.1 hp with rfl | hp;exact tL _
  obtain rfl:=List.mem_singleton.1 hp;exact zA _
 refine VCx.keepQ 0 0 (Nat.le_refl _) (Nat.le_refl _) (ai ac aa hS ag (Hl (au u.w) (iV u.a.p) (au u.n) u.a.o u.a.h u.a.m u.a.hm (dM u.a) (decide (u.a=bS)) _) ⟨⟨⟨_,rfl,by omega⟩,_,rfl,by omega⟩, ?_⟩)
 rw [qJ,vU,Bool.not_not,bv]
 have fin:∀(q:Bool) (T:VT),fS u=q→((TV.val (.bool q)).ren (aw 0) (aw 0)= .val (.bool (fS u))∧T.keep 0 0=⟨[], []⟩):=fun b T h=>⟨by rw [h];rfl,by simp [VT.keep]⟩
 cases hg:(u.w++u.n).all fun p=>gq p.1 p.2
 ·exact be rfl (fin false _ (by unfold fS;rw [hg];rfl))
 ·refine aI rfl (bp (fun c=>⟨⟨u.a,rfl,h3,rfl⟩,fin _ _ ?_⟩) (fun c=>⟨⟨u.a,rfl,h3,rfl,rfl⟩,fin _ _ ?_⟩))
  ·unfold fS;rw [hg,c];rfl
  ·unfold fS;rw [hg,c];rfl
theorem zB {u:UpV} (hu:fj u) (hg:fS u=true):ly u.w∧ly u.n:=by
 obtain ⟨h1,h2,_⟩:=hu
 unfold fS at hg
 have h:=(Bool.and_eq_true _ _▸hg).1
 rw [List.all_eq_true] at h
 exact ⟨⟨fun p hp=>zx (h p (List.mem_append.2 (.inl hp))),by omega⟩,⟨fun p hp=>zx (h p (List.mem_append.2 (.inr hp))),by omega⟩⟩
theorem FE (u:UpV):IsB (mS u)∧(mS u).length≤10040:=by
 unfold mS
 cases decide ((u.n.length:Int)>0)
 ·exact ⟨.nil,Nat.zero_le _⟩
 ·exact ⟨tK _,vN _⟩
theorem zC {b:Bs} (h:0<b.length):b≠ []:=List.length_pos_iff.1 h
theorem zD {u:UpV} (hu:fj u) (hg:fS u=true):tU (aL 2 (cG u.w).length++cG u.w) (aL 2 (mS u).length++mS u) (cG u.n):=by
 obtain ⟨hw,hn⟩:=zB hu hg
 obtain ⟨h1,h2,_⟩:=hu
 obtain ⟨a1,a2⟩:=FE u
 have l1:=eS u.w
 have l2:=eS u.n
 have p2:∀z:Int,(aL 2 z).length=2:=fun z=>bN z
 refine ⟨⟨IsB.append (cJ _ (by decide)) (gL hw) ?_,zC ?_⟩,⟨IsB.append (cJ _ (by decide)) a1 ?_,zC ?_⟩,gL hn, ?_⟩<;>simp only [List.length_append,p2]<;>omega
theorem zE {u:UpV} (hu:fj u) (hg:fS u=true):IsB (nU u):=by
 have h:=zD hu hg
 exact IsB.append h.1.1 (IsB.append h.2.1.1 h.2.2.1 (by have:=h.2.2.2;simp only [List.length_append] at this ⊢;omega)) (by have:=h.2.2.2;simp only [List.length_append] at this ⊢;omega)
theorem FF {u:UpV} (hu:fj u) (hg:fS u=true):VCx Try.prog ae 0 H5 [.agg u.cells] ⟨[], []⟩ fun x T' =>x= .vec 1 (nU u) .none∧T' =⟨[], []⟩:=by
 have hS:aY Try.prog ae (ax [(ze,CA (ig u.a)),(jf,CB),(tR,CC),(vO,xD)]):=aA fun p hp=>by
  rcases List.mem_cons.1 hp with rfl | hp;exact FB _
  rcases List.mem_cons.1 hp with rfl | hp;exact FC
  rcases List.mem_cons.1 hp with rfl | hp;exact Fz
  obtain rfl:=List.mem_singleton.1 hp;exact DT
 obtain ⟨hw,hn⟩:=zB hu hg
 have hc:=zD hu hg
 have hB:=zE hu hg
 have l1:=eS u.w
 obtain ⟨h1,h2,h3,h4,h5⟩:=hu
 have e1:fR (au u.w)=cG u.w:=by unfold fR;rw [nv]
 have e2:fR (au u.n)=cG u.n:=by unfold fR;rw [nv]
 have fin:∀(v:Bs) (T:VT),v=nU u→((TV.vec 1 v .none).ren (aw 0) (aw 0)= .vec 1 (nU u) .none∧T.keep 0 0=⟨[], []⟩):=fun v T h=>⟨by subst h;simp only [TV.ren,hB.ren,Tok.ren],by simp [VT.keep]⟩
 refine VCx.keepQ 0 0 (Nat.le_refl _) (Nat.le_refl _) (ai ac aa hS ag (Hn (au u.w) (iV u.a.p) (au u.n) (ig u.a) u.a.o u.a.h u.a.m u.a.hm _) ?_)
 rw [e1,e2,bv]
 have cw:qI (cG u.w):=⟨gL hw,by omega⟩
 have hA:∀c,decide ((u.n.length:Int)>0)=c→mS u=bif c then ig u.a else []:=fun c h=>by unfold mS;rw [h]
 refine bp (fun c=> ?_) (fun c=> ?_)
 ·have e:=hA _ c
  simp only [cond_true] at e
  rw [e] at hc
  exact ⟨⟨u.a,rfl,h3,⟨h4,h5⟩,rfl⟩,⟨_,rfl,hw⟩,⟨rfl,rfl,trivial⟩,cw,⟨rfl,rfl,trivial⟩,⟨tK _,by have:=vN u.a;omega⟩,⟨rfl,rfl,trivial⟩,⟨_,rfl,hn⟩,hc,fin _ _ (by unfold nU;rw [e])⟩
 ·have e:=hA _ c
  simp only [cond_false] at e
  have e2:aL (2:Int) ((([]:Bs).length:Nat):Int)++ []=aL 2 0:=by rw [List.append_nil];rfl
  rw [e,e2] at hc
  exact ⟨⟨_,rfl,hw⟩,⟨rfl,rfl,trivial⟩,cw,⟨rfl,rfl,trivial⟩,⟨rfl,rfl,trivial⟩,⟨_,rfl,hn⟩,hc,fin _ _ (by unfold nU;rw [e,e2])⟩
end
end Go.Proofs.Ytnfplefcghadfaa
namespace Go.Proofs
open Go.Shelf
def Try.sortCh_ren:Go.Shelf.Ren:=⟨fun | 6=>56 | 15=>81 | 14=>80 | 28=>117 | 29=>118 | 20=>109 | 21=>110 | 22=>111 | 23=>112 | 24=>113 | 25=>114 | 26=>115 | 27=>116 | 46=>133 | 47=>134 | 48=>135 | 49=>136 | 50=>137 | 57=>149 | n=>n,fun | 22=>48 | 24=>34 | 25=>103 | 3=>3 | 39=>58 | 0=>0 | 53=>27 | 55=>156 | 4=>4 | 46=>149 | 45=>148 | 50=>100 | 5=>5 | 9=>9 | 66=>170 | 70=>174 | 76=>184 | 77=>50 | n=>n,fun | n=>n⟩
theorem Try.sortCh:Go.Proofs.SlLaysF0.n6 Try.prog Try.sortCh_ren:={
 mixed:=by kernel_rfl
 f6:=⟨Try.f56.name,by decide,Try.func56.trans (congrArg some (by kernel_rfl))⟩
 f14:=⟨Try.f80.name,by decide,Try.func80.trans (congrArg some (by kernel_rfl))⟩
 f15:=Try.func81.trans (congrArg some (by kernel_rfl))
 f20:=⟨Try.f109.name,by decide,Try.func109.trans (congrArg some (by kernel_rfl))⟩
 f21:=⟨Try.f110.name,by decide,Try.func110.trans (congrArg some (by kernel_rfl))⟩
 f22:=⟨Try.f111.name,by decide,Try.func111.trans (congrArg some (by kernel_rfl))⟩
 f23:=⟨Try.f112.name,by decide,Try.func112.trans (congrArg some (by kernel_rfl))⟩
 f24:=⟨Try.f113.name,by decide,Try.func113.trans (congrArg some (by kernel_rfl))⟩
 f25:=⟨Try.f114.name,by decide,Try.func114.trans (congrArg some (by kernel_rfl))⟩
 f26:=⟨Try.f115.name,by decide,Try.func115.trans (congrArg some (by kernel_rfl))⟩
 f27:=⟨Try.f116.name,by decide,Try.func116.trans (congrArg some (by kernel_rfl))⟩
 f28:=Try.func117.trans (congrArg some (by kernel_rfl))
 f29:=Try.func118.trans (congrArg some (by kernel_rfl))
 f46:=⟨Try.f133.name,by decide,Try.func133.trans (congrArg some (by kernel_rfl))⟩
 f47:=Try.func134.trans (congrArg some (by kernel_rfl))
 f48:=Try.func135.trans (congrArg some (by kernel_rfl))
 f49:=⟨Try.f136.name,by decide,Try.func136.trans (congrArg some (by kernel_rfl))⟩
 f50:=⟨Try.f137.name,by decide,Try.func137.trans (congrArg some (by kernel_rfl))⟩
 f57:=⟨Try.f149.name,by decide,Try.func149.trans (congrArg some (by kernel_rfl))⟩
 t0:=Try.underlying0
 a0:=Try.isAgg0
 z0:=Try.sizeOf0
 v0:=Try.zeroValue0
 t3:=Try.underlying3
 a3:=Try.isAgg3
 z3:=Try.sizeOf3
 v3:=Try.zeroValue3
 t4:=Try.underlying4
 a4:=Try.isAgg4
 z4:=Try.sizeOf4
 v4:=Try.zeroValue4
 t5:=Try.underlying5
 a5:=Try.isAgg5
 z5:=Try.sizeOf5
 v5:=Try.zeroValue5
 t9:=Try.underlying9
 a9:=Try.isAgg9
 z9:=Try.sizeOf9
 v9:=Try.zeroValue9
 t22:=Try.underlying48
 a22:=Try.isAgg48
 z22:=Try.sizeOf48
 v22:=Try.zeroValue48
 t25:=Try.underlying103
 a25:=Try.isAgg103
 z25:=Try.sizeOf103
 v25:=Try.zeroValue103
 t39:=Try.underlying58
 a39:=Try.isAgg58
 z39:=Try.sizeOf58
 v39:=Try.zeroValue58
 t45:=Try.underlying148
 a45:=Try.isAgg148
 z45:=Try.sizeOf148
 v45:=Try.zeroValue148
 t46:=Try.underlying149
 a46:=Try.isAgg149
 z46:=Try.sizeOf149
 v46:=Try.zeroValue149
 t50:=Try.underlying100
 a50:=Try.isAgg100
 z50:=Try.sizeOf100
 v50:=Try.zeroValue100
 t53:=Try.underlying27
 a53:=Try.isAgg27
 z53:=Try.sizeOf27
 v53:=Try.zeroValue27
 t55:=Try.underlying156
 a55:=Try.isAgg156
 z55:=Try.sizeOf156
 v55:=Try.zeroValue156
 t66:=Try.underlying170
 a66:=Try.isAgg170
 z66:=Try.sizeOf170
 v66:=Try.zeroValue170
 t70:=Try.underlying174
 a70:=Try.isAgg174
 z70:=Try.sizeOf174
 v70:=Try.zeroValue174
 t76:=Try.underlying184
 a76:=Try.isAgg184
 z76:=Try.sizeOf184
 v76:=Try.zeroValue184
 t77:=Try.underlying50
 a77:=Try.isAgg50
 z77:=Try.sizeOf50
 v77:=Try.zeroValue50}
end Go.Proofs
set_option maxRecDepth 100000
--Pfx2
namespace Go.Proofs.Ytnfplefcghadfaa
section
open Go.RowKit

def jh (a b:Int):Int:=if a<b then-1 else if b<a then 1 else 0
set_option maxHeartbeats 400000 in
theorem FG (a b:Int) (w:World):Calls Try.prog 83 #[.int .u32 a, .int .u32 b] w fun e w' =>e= .returned (.int .i64 (jh a b))∧w=w' :=by
 go_enter Try.func83,Try.ntmps83
 go_wp2
 all_goals (go_ret;exact ⟨u7 (by unfold jh;first | rw [if_pos ‹_›] | rw [if_neg (by omega),if_pos (by omega)] | rw [if_neg (by omega),if_neg (by omega)]),rfl⟩)
set_option maxHeartbeats 400000 in
theorem Hp (a b:Int) (w:World):Calls Try.prog 84 #[.int .i64 a, .int .i64 b] w fun e w' =>e= .returned (.int .i64 (jh a b))∧w=w' :=by
 go_enter Try.func84,Try.ntmps84
 go_wp2
 all_goals (go_ret;exact ⟨u7 (by unfold jh;first | rw [if_pos ‹_›] | rw [if_neg (by omega),if_pos (by omega)] | rw [if_neg (by omega),if_neg (by omega)]),rfl⟩)

def mV:List Int→Int
 | []=>0
 | x::r=>if x=0 then mV r else x
theorem oK:∀(zs:List Int) (k:Nat),(∀j,j<k→zs.getD j 0=0)→mV zs=mV (zs.drop k)
 | [],_,_=>by simp
 | x::r,0,_=>by simp
 | x::r,k+1,h=>by
  have h0:=h 0 (by omega)
  simp at h0
  simp only [mV,h0,if_true,List.drop_succ_cons]
  exact oK r k (fun j hj=>by have:=h (j+1) (by omega);simpa using this)

set_option maxHeartbeats 400000 in
theorem Iu (zs:List Int) (w:World) (pb po:Nat) (hn:zs.length≤1000) (hc:∀j,j<zs.length→w.cell? ⟨pb,po+j,none⟩=some (.int .i64 (zs.getD j 0))):
    Calls Try.prog 82 #[.slice (some ⟨pb,po,none⟩) zs.length zs.length] w fun e w' =>e= .returned (.int .i64 (mV zs))∧w=w' :=by
  have HC:=Lib.hid hc
  clear hc
  go_enter Try.func82,Try.ntmps82
  go_wp2
  go_loop [5,8] (fun _ i=>∃k:Nat,k≤zs.length∧i= .int .i64 k∧∀j,j<k→zs.getD j 0=0) (fun _ i=>zs.length-(intOf i).toNat)
  case atStart=>exact ⟨0,Nat.zero_le _,rfl,fun j hj=>absurd hj (by omega)⟩
  case round=>
    obtain ⟨k,hk,rfl,hz⟩:=hrel
    have HZ:=Lib.hid hz
    clear hz
    by_cases hlt:k<zs.length
    · have c0:=HC.out k hlt
      generalize hx:zs.getD k 0=x at c0
      have HX:=Lib.hid hx
      clear hx
      by_cases h0:x=0
      · subst h0
        go_wp2
        go_round
        case rel=>exact ⟨k+1,by omega,by go_num,fun j hj=>by
          rcases Nat.lt_or_ge j k with h | h
          · exact HZ.out j h
          · obtain rfl:j=k:=by omega
            exact HX.out⟩
        case measure=>simp [intOf];omega
      · have e1:=Lib.hid (show mV zs=x by
          rw [oK zs k HZ.out,List.drop_eq_getElem_cons hlt]
          have:zs[k]=x:=by rw [←HX.out];simp [hlt]
          simp only [mV,this,h0,if_false])
        have h0' :(x !=0)=true:=by simpa using h0
        clear h0
        go_wp2
        go_ret
        exact ⟨by rw [e1.out];rfl,rfl⟩
    · have e1:=Lib.hid (show mV zs=0 by
        rw [oK zs k HZ.out,List.drop_eq_nil_of_le (by omega)];rfl)
      go_wp2
      go_ret
      exact ⟨by rw [e1.out];rfl,rfl⟩

def Hq (a:Int) (n:Int) (b:Int) (m:Int):Int:=mV [jh a b,jh n m]
end
--PREv
section
open Go.RowKit

end
--PRCmp
section
open Go.RowKit

set_option maxHeartbeats 400000 in
theorem Hr (a n b m:Int) (w:World):
  Calls Try.prog 58 #[.agg #[.int .u32 a, .int .i64 n], .agg #[.int .u32 b, .int .i64 m]] w fun e w' =>e= .returned (.int .i64 (Hq a n b m))∧Gd w w' :=by
 have d0:=sf ((Gr.refl _).alloc (.cells #[.int .u32 b, .int .i64 m] 29)) (m7 w [.int .u32 a, .int .i64 n] 29 0 _ rfl)
 have d1:=sf ((Gr.refl _).alloc (.cells #[.int .u32 b, .int .i64 m] 29)) (m7 w [.int .u32 a, .int .i64 n] 29 1 _ rfl)
 have d2:=m7 (w.alloc (.cells #[.int .u32 a, .int .i64 n] 29)) [.int .u32 b, .int .i64 m] 29 0 _ rfl
 have d3:=m7 (w.alloc (.cells #[.int .u32 a, .int .i64 n] 29)) [.int .u32 b, .int .i64 m] 29 1 _ rfl
 have gw:=((Gr.refl w).alloc (.cells #[.int .u32 a, .int .i64 n] 29)).alloc (.cells #[.int .u32 b, .int .i64 m] 29)
 simp only [World.size_alloc] at d2 d3
 go_enter Try.func58,Try.ntmps58
 go_wp2_with fail
 have hd:((w.alloc (.cells #[.int .u32 a, .int .i64 n] 29)).alloc (.cells #[.int .u32 b, .int .i64 m] 29)).drawn=w.drawn:=rfl
 generalize (w.alloc (.cells #[.int .u32 a, .int .i64 n] 29)).alloc (.cells #[.int .u32 b, .int .i64 m] 29)=W at*
 replace gw:Gd w W:=⟨gw,by omega⟩
 replace d0:=fun w' (k:Gd W w')=>d0 w' k.1
 replace d1:=fun w' (k:Gd W w')=>d1 w' k.1
 replace d2:=fun w' (k:Gd W w')=>d2 w' k.1
 replace d3:=fun w' (k:Gd W w')=>d3 w' k.1
 have hS0:=(Gd.refl W).drew
 refine qg [(0,true),(1,true),(2,true),(3,true),(5,true),(6,true),(7,true),(8,true),(4,false),(9,false),(10,false),(11,false),(12,true)] (Gd W) (by kernel_rfl) (by kernel_rfl) hS0 ?_
 simp only [iA,List.getElem?_toArray,List.getElem?_cons_zero,List.getElem?_cons_succ]
 repeat (first
  | (refine uI (by rfl) ?_;(try simp only [Act.put,List.setIfInBounds_toArray,List.set_cons_zero,List.set_cons_succ]))
  | (refine uJ (by rfl) ?_;apply Exists.intro;refine ⟨fun w' hSw=> ?_, ?_⟩;(focus ((try dsimp only at hSw);go_simp;first | done | with_reducible rfl));(try simp only [Act.put,List.setIfInBounds_toArray,List.set_cons_zero,List.set_cons_succ]))
  | (refine qP (by rfl) (fun K hK=> ?_);go_simp;(first | (go_at_call 83;refine (FG _ _ _).mono ?_;rintro e w2 ⟨rfl,rfl⟩) | (go_at_call 84;refine (Hp _ _ _).mono ?_;rintro e w2 ⟨rfl,rfl⟩) | (go_at_call 82;refine (Iu [jh a b,jh n m] _ _ 0 (by simp) ?_).mono ?_;(focus (intro j hj;simp at hj;obtain rfl | rfl:j=0∨j=1:=(by omega))<;>simp);rintro e w2 ⟨rfl,rfl⟩));refine hK _ _ (by first | exact Gd.alloc (by assumption) _ | assumption) (fun hSn=> ?_);clear hK K;(try simp only [Act.put,List.setIfInBounds_toArray,List.set_cons_zero,List.set_cons_succ]))
  | (refine qP (by rfl) (fun K hK=> ?_);go_simp;refine hK _ _ (by first | exact Gd.alloc (by assumption) _ | assumption) (fun hSn=> ?_);clear hK K;(try simp only [Act.put,List.setIfInBounds_toArray,List.set_cons_zero,List.set_cons_succ])))
 refine wq ?_
 go_wp2
 go_ret
 exact ⟨rfl,gw.trans (by assumption)⟩
def kF (x y:Int × Int):Int:=mV [jh x.1 y.1,jh x.2 y.2]
end
--PRLaw
section
open Go.RowKit Go.Sort Go.Shelf

abbrev Px:=Int × Int
def dj (x y:Px):Prop:=x.1<y.1∨(x.1=y.1∧x.2<y.2)
instance (x y:Px):Decidable (dj x y):=by unfold dj;infer_instance
theorem er (x:Px):¬dj x x:=by unfold dj;omega
theorem lA {x y z:Px} (h:dj x y) (k:dj y z):dj x z:=by unfold dj at*;omega
theorem pM {x y:Px} (h:¬dj x y) (k:¬dj y x):x=y:=by
 obtain ⟨a,b⟩:=x;obtain ⟨c,d⟩:=y
 unfold dj at*
 simp only at*
 have:a=c∧b=d:=by omega
 rw [this.1,this.2]
theorem lB:∀{l m:List Px},l.Pairwise dj→m.Pairwise dj→(∀x,x∈l ↔ x∈m)→l=m
  | [], [],_,_,_=>rfl
  | [],b::m,_,_,h=>by have:=(h b).2 (by simp);simp at this
  | a::l, [],_,_,h=>by have:=(h a).1 (by simp);simp at this
  | a::l,b::m,hl,hm,h=>by
    obtain ⟨hl1,hl2⟩:=List.pairwise_cons.1 hl
    obtain ⟨hm1,hm2⟩:=List.pairwise_cons.1 hm
    have e:a=b:=by
      rcases List.mem_cons.1 ((h a).1 (by simp)) with h1 | h1
      · exact h1
      · rcases List.mem_cons.1 ((h b).2 (by simp)) with h2 | h2
        · exact h2.symm
        · exact absurd (lA (hm1 a h1) (hl1 b h2)) (er b)
    subst e
    congr 1
    refine lB hl2 hm2 fun x=>⟨fun hx=> ?_,fun hx=> ?_⟩
    · rcases List.mem_cons.1 ((h x).1 (List.mem_cons_of_mem _ hx)) with rfl | h1
      · exact absurd (hl1 x hx) (er x)
      · exact h1
    · rcases List.mem_cons.1 ((h x).2 (List.mem_cons_of_mem _ hx)) with rfl | h1
      · exact absurd (hm1 x hx) (er x)
      · exact h1
def jI:Px→List Px→List Px
 | _, []=> []
 | p,a::l=>if a=p then jI p l else a::jI a l
def iu:List Px→List Px
 | []=> []
 | a::l=>a::jI a l
theorem tX (x y:Px):ltOf kF x y=true ↔ dj x y:=by
 unfold ltOf kF dj
 simp only [mV,jh]
 by_cases a1:x.1<y.1
 ·simp [a1]
 ·by_cases a2:y.1<x.1
  ·simp [a1,a2];omega
  ·by_cases b1:x.2<y.2
   ·simp [a1,a2,b1];omega
   ·by_cases b2:y.2<x.2
    ·simp [a1,a2,b1,b2];try omega
    ·simp [a1,a2,b1,b2]
theorem iL (x y:Px):ltOf kF x y=false ↔ ¬dj x y:=by rw [←tX x y];simp
theorem FH:SWO (ltOf kF):=by
 refine ⟨fun x=> ?_,fun x y z h1 h2=> ?_,fun x y z h1 h2=> ?_⟩
 ·rw [iL];exact er x
 ·rw [tX] at*;exact lA h1 h2
 ·rw [iL] at*;unfold dj at*;omega
theorem BU (x y:Px) (h1:ltOf kF x y=false) (h2:ltOf kF y x=false):x=y:=by
 rw [iL] at h1 h2;exact pM h1 h2
def ea (l:List Px):List Px:=l.mergeSort fun x y=> !(ltOf kF) y x
theorem zF (l:List Px):(ea l).length=l.length:=List.length_mergeSort l
theorem tY (l:List Px):(ea l).Pairwise (fun x y=>¬dj y x):=by
 have:=List.pairwise_mergeSort (le:=fun x y=> !(ltOf kF) y x) (fun a b c h1 h2=> ?_) (fun a b=> ?_) l
 ·refine List.Pairwise.imp ?_ this
  intro a b h
  exact (iL b a).1 (by simpa using h)
 ·simp only [Bool.not_eq_eq_eq_not,Bool.not_true] at*
  rw [iL] at*
  unfold dj at*;omega
 ·cases h:ltOf kF b a with
  | false=>simp
  | true=>
   have h1:=(tX b a).1 h
   have:ltOf kF a b=false:=(iL a b).2 fun k=>er a (lA k h1)
   simp [this]
theorem lC:∀(p:Px) (l:List Px) (x:Px),jI p (l++ [x])=if (p::l).getLast?=some x then jI p l else jI p l++ [x]
 | p, [],x=>by
  simp only [List.nil_append,jI,List.getLast?_singleton,Option.some.injEq]
  by_cases h:x=p
  ·subst h;simp
  ·rw [if_neg h,if_neg (fun e=>h e.symm)]
 | p,a::l,x=>by
  have e:(p::a::l).getLast?=(a::l).getLast?:=by simp [List.getLast?_cons_cons]
  simp only [List.cons_append,jI,e]
  split
  ·rename_i h;subst h
   exact lC a l x
  ·rw [lC a l x]
   split<;>simp
theorem xE (l:List Px) (x:Px) (hl:l≠ []):iu (l++ [x])=if l.getLast?=some x then iu l else iu l++ [x]:=by
 cases l with
 | nil=>exact absurd rfl hl
 | cons a l=>
  simp only [List.cons_append,iu,lC]
  split<;>simp
theorem xF {l:List Px} {j:Nat} {x y:Px} (hx:l[j]?=some x) (hj:0<j) (hy:l[j-1]?=some y):iu (l.take (j+1))=if y=x then iu (l.take j) else iu (l.take j)++ [x]:=by
 have hlt:=(List.getElem?_eq_some_iff.1 hx).1
 have e:l.take (j+1)=l.take j++ [x]:=by rw [List.take_add_one,hx];rfl
 have hn:l.take j≠ []:=by
  intro h
  have:=congrArg List.length h
  rw [List.length_take,List.length_nil] at this
  omega
 have hlast:(l.take j).getLast?=some y:=by
  have hj2:(l.take j).length=j:=by rw [List.length_take];omega
  rw [List.getLast?_eq_getElem?,hj2,List.getElem?_take,if_pos (by omega)]
  exact hy
 rw [e,xE _ _ hn,hlast]
 simp
structure CptB (l c:List Px) (k j:Nat):Prop where
 len:c.length=l.length
 k0:0<k
 kj:k<j
 jl:j≤l.length
 done:c.take k=iu (l.take j)
 left:c.drop (j-1)=l.drop (j-1)
theorem CptB.start {l:List Px} {j:Nat} {x:Px} (hj:0<j) (hx:l[j]?=some x) (hy:l[j-1]?=some x) (h:iu (l.take j)=l.take j):CptB l l j (j+1) where
 len:=rfl
 k0:=hj
 kj:=Nat.lt_succ_self _
 jl:=(List.getElem?_eq_some_iff.1 hx).1
 done:=by rw [xF hx hj hy,if_pos rfl,h]
 left:=rfl
end
--PRRef
section
open Go.RowKit

end
--PRCpt
section
open Go.RowKit

end
--PRSort
section
open Go.RowKit Go.Sort Go.Shelf

end
--PRL
section
open Go.RowKit

end
section
open Go.RowKit

def kP:KS:=⟨true, [.int .u32, .int .i64]⟩
def c6 (p:Px):Value:= .agg #[.int .u32 p.1, .int .i64 p.2]
def FI:Value→Px
 | .agg #[.int _ a, .int _ n]=>(a,n)
 | _=>(0,0)
end
section
open Go.RowKit

theorem BV (p:Px):FI (c6 p)=p:=rfl
section
variable {lk:Value→Option TV} {es:List (Value × TV × Nat)} {ck:Nat}
end
end
section
open Go.RowKit

abbrev ij:=Value→Option TV
abbrev ia:=List (Value × TV × Nat)
abbrev CE:=Px × AtV
def tZ (p:Px) (a:AtV) (g:Bool):Bool:=gq p.1 p.2&&bif g then decide (a=bS) else dM a
abbrev zG:=43
def H8 (a n:Int):TV:= .agg [.val (.int .u32 a), .val (.int .i64 n)]
def fA (a n:Int) (x:AtV) (g:Bool):List TV:= [.val (.int .u32 a), .val (.int .i64 n)]++x.cells++ [.val (.bool g)]
theorem Hs (a n:Int) (x:AtV) (g ok ok2:Bool) (Q:TV→VT→Prop):aq Try.prog ae (ax [(tO,vQ),(pI,rA ok),(mO,vR ok2)]) (aG [(999998, .dead,none)]) 300 az 0 zG [.agg (fA a n x g)] ⟨[], []⟩ Q=
 (bif g
 then (bif gq a n
 then (BL [(.val (.int .i64 (AtV.o x))),(.vec 1 (iV (AtV.p x)) .none),(.val (.int .u32 (AtV.h x))),(.val (.int .i64 (AtV.m x))),(.val (.bool (AtV.hm x)))] [(.val (.int .i64 0)),(.val (.slice .none 0 0)),(.val (.int .u32 0)),(.val (.int .i64 0)),(.val (.bool false))] (ok2)∧
 Q (.val (.bool (ok2))) ⟨[(.cells [(.val (.int .u32 (a))),(.val (.int .i64 (n))),(.val (.int .i64 (AtV.o x))),(.vec 1 (iV (AtV.p x)) .none),(.val (.int .u32 (AtV.h x))),(.val (.int .i64 (AtV.m x))),(.val (.bool (AtV.hm x))),(.val (.bool (g)))])], []⟩)
 else Q (.val (.bool false)) ⟨[(.cells [(.val (.int .u32 (a))),(.val (.int .i64 (n))),(.val (.int .i64 (AtV.o x))),(.vec 1 (iV (AtV.p x)) .none),(.val (.int .u32 (AtV.h x))),(.val (.int .i64 (AtV.m x))),(.val (.bool (AtV.hm x))),(.val (.bool (g)))])], []⟩)
 else (bif gq a n
 then (xw [(.val (.int .i64 (AtV.o x))),(.vec 1 (iV (AtV.p x)) .none),(.val (.int .u32 (AtV.h x))),(.val (.int .i64 (AtV.m x))),(.val (.bool (AtV.hm x)))] (ok)∧
 Q (.val (.bool (ok))) ⟨[(.cells [(.val (.int .u32 (a))),(.val (.int .i64 (n))),(.val (.int .i64 (AtV.o x))),(.vec 1 (iV (AtV.p x)) .none),(.val (.int .u32 (AtV.h x))),(.val (.int .i64 (AtV.m x))),(.val (.bool (AtV.hm x))),(.val (.bool (g)))])], []⟩)
 else Q (.val (.bool false)) ⟨[(.cells [(.val (.int .u32 (a))),(.val (.int .i64 (n))),(.val (.int .i64 (AtV.o x))),(.vec 1 (iV (AtV.p x)) .none),(.val (.int .u32 (AtV.h x))),(.val (.int .i64 (AtV.m x))),(.val (.bool (AtV.hm x))),(.val (.bool (g)))])], []⟩)):=by kernel_rfl
end
section
open Go.RowKit

theorem BW {p q:Px} (h:c6 p=c6 q):p=q:=by
 have:=congrArg FI h
 simpa [BV] using this
theorem CF (p:Px):kP.fits (c6 p)=true:=rfl
theorem FJ (p q:Px):an (c6 p) (c6 q)=decide (p=q):=by
 have h:=bG (CF p) (CF q)
 cases hk:an (c6 p) (c6 q) with
 | true=>exact (decide_eq_true (BW (h.1 hk))).symm
 | false=>
  refine (decide_eq_false fun e=> ?_).symm
  rw [h.2 (by rw [e])] at hk;cases hk
section
variable {W:List CE} {lk:ij} {es:ia} {ck:Nat}
end
end
section
open Go.RowKit

end
section
open Go.RowKit
set_option maxRecDepth 100000

theorem pN {G:ay} {T:VT} {t:TypeId} {m k:Operand} {ok:Bool} {l:List (Nat × TV)} {y:TV} (h:de Try.prog T t (aR G l m) (aR G l k) ok=some y):aZ Try.prog G 0 T (.lookup t m k ok) l y T:=by
 refine .mk ?_
 have h1:aX Try.prog (.lookup t m k ok) (aR G l)=none:=by simp [aX,dq]
 have h2:aK Try.prog T (.lookup t m k ok) (aR G l)=some y:=by simp only [aK,h]
 simp only [eK,h1,h2]
end
section
open Go.RowKit
set_option maxRecDepth 100000

theorem FL (p:Px) {a:AtV} (g:Bool) (ha:a.p.length≤9223372036854775807):VCx Try.prog ae 0 zG [.agg (fA p.1 p.2 a g)] ⟨[], []⟩ fun x T' =>x= .val (.bool (tZ p a g))∧T' =⟨[], []⟩:=by
 have hS:aY Try.prog ae (ax [(tO,vQ),(pI,rA (dM a)),(mO,vR (decide (a=bS)))]):=aA fun q hq=>by
  rcases List.mem_cons.1 hq with rfl | hq;exact zw
  rcases List.mem_cons.1 hq with rfl | hq;exact tL _
  obtain rfl:=List.mem_singleton.1 hq;exact zA _
 refine VCx.keepQ 0 0 (Nat.le_refl _) (Nat.le_refl _) (ai ac aa hS ag (Hs p.1 p.2 a g (dM a) (decide (a=bS)) _) ?_)
 unfold tZ
 refine bp (fun hg=> ?_) (fun hg=> ?_)
 ·subst hg
  refine bp (fun hp=> ?_) (fun hp=> ?_)
  ·rw [hp];exact ⟨⟨a,rfl,ha,rfl,rfl⟩,rfl,rfl⟩
  ·rw [hp];exact ⟨rfl,rfl⟩
 ·subst hg
  refine bp (fun hp=> ?_) (fun hp=> ?_)
  ·rw [hp];exact ⟨⟨a,rfl,ha,rfl⟩,rfl,rfl⟩
  ·rw [hp];exact ⟨rfl,rfl⟩
section
variable {W H:List CE} {lk lk2:ij} {es es2:ia} {ck ck2:Nat}
end
end
section
open Go.RowKit

end
section
open Go.RowKit
set_option maxRecDepth 100000

end
section
open Go.RowKit
set_option maxRecDepth 100000

section
variable {W H:List CE} {lk lk2:ij} {es es2:ia} {ck ck2:Nat}
theorem eC {j:Nat} (h:j≤3000000):IntKind.wrap IntKind.i64 ((j:Int)+1)=((j+1:Nat):Int):=by rw [fg (by omega) (by omega)];omega
end
end
section
open Go.RowKit
set_option maxRecDepth 100000

section
variable {W H:List CE} {lk lk2:ij} {es es2:ia} {ck ck2:Nat}
end
end
section

def cl (n:Int):Nat:=if n<0 then 0 else if 32<n then 32 else n.toNat
def Iv (n:Int):Nat:=2^32-2^(32-cl n)
def hd (a:Nat) (n:Int):Nat:=a/2^(32-cl n)*2^(32-cl n)
def tl (b:Nat) (m:Int):Nat:=hd b m ||| (4294967295-Iv m)
end
set_option maxRecDepth 100000
--PfxG
section
open Go.RowKit

end
--PfxR
section
open Go.RowKit

end
--PRLaw
section
open Go.RowKit Go.Sort Go.Shelf

instance (x y:Px):Decidable (dj x y):=by unfold dj;infer_instance
end
--Pfx4
section
open Go.RowKit

end
--PRRef
section
open Go.RowKit

end
section
open Go.RowKit
set_option maxRecDepth 100000

end
section
open Go.RowKit

end
section
open Go.RowKit
set_option maxRecDepth 100000

end
section
open Go.RowKit
set_option maxRecDepth 100000

theorem Il (p q:Px):aT BinOp.eql (an (c6 p) (c6 q))=decide (p=q):=by rw [FJ];rfl
end
section
open Go.RowKit Go.Sort Go.Shelf
set_option maxRecDepth 100000

def jJ (V:Px→Nat→Value) (p:Px):List Value:= [.int .u32 p.1, .int .i64 p.2,V p 0,V p 1,V p 2,V p 3,V p 4,V p 5]
theorem kG (V:Px→Nat→Value) (p:Px):(jJ V p).length=8:=rfl
set_option maxHeartbeats 400000 in
theorem BX (V:Px→Nat→Value) (x y:Px) (w:World):
  Calls Try.prog 57 #[.agg #[.int .u32 x.1, .int .i64 x.2,V x 0,V x 1,V x 2,V x 3,V x 4,V x 5], .agg #[.int .u32 y.1, .int .i64 y.2,V y 0,V y 1,V y 2,V y 3,V y 4,V y 5]] w fun e w' =>e= .returned (.int .i64 (kF x y))∧Gd w w' :=by
 have HC:=Lib.hid fun W=>Hr x.1 x.2 y.1 y.2 W
 go_enter Try.func57,Try.ntmps57
 go_wp2_with fail
 refine (HC.out _).mono ?_;rintro e w1 ⟨rfl,hb⟩
 go_wp2
 go_ret
 exact ⟨rfl,(((Gd.refl w).alloc _).alloc _).trans hb⟩
end
section
open Go.RowKit Go.Sort Go.Shelf
set_option maxRecDepth 100000

abbrev t6:=56
def rE (a n:Int) (m:Nat) (x:AtV) (g:Bool):List TV:= [.val (.int .u32 a), .val (.int .i64 n), .val (.int .i64 x.o), .vec 1 (iV x.p) (.arg m), .val (.int .u32 x.h), .val (.int .i64 x.m), .val (.bool x.hm), .val (.bool g)]
def gi (m:Nat) (R:Px→AtV × Bool) (p:Px):List TV:=rE p.1 p.2 m (R p).1 (R p).2
theorem nw (m:Nat) (R:Px→AtV × Bool) (p:Px):(gi m R p).length=8:=rfl
def ji (ks:List Px) (us:List Value) (p:Px) (j:Nat):Value:=if p∈ks then (us[ks.idxOf p*8+(j+2)]?).getD (.bool false) else .bool false
theorem Ht (V:Px→Nat→Value) (blk off size:Nat) (w:World):CmpLays Try.prog 57 #[] (jJ V) 8 kF blk off size w:=
 fun _ _ _ _ x y=>(BX V x y _).mono fun _ _ ⟨he,hg⟩=>⟨he,hg.grow⟩
theorem rF {p:Px}:∀{ks:List Px} {i:Nat},ks.Nodup→ks[i]?=some p→ks.idxOf p=i
 | [],_,_,h=>by simp at h
 | a::l,0,_,h=>by
  simp at h;subst h
  exact List.idxOf_cons_self
 | a::l,i+1,hn,h=>by
  have h' :l[i]?=some p:=by simpa using h
  have hm:p∈l:=List.mem_of_getElem? h'
  have hne:a≠p:=fun e=>(List.nodup_cons.1 hn).1 (e▸hm)
  rw [List.idxOf_cons,rF (List.nodup_cons.1 hn).2 h']
  rw [show (a==p)=false by simpa using hne]
  rfl
theorem FN {m:Nat} {g:Gh} {w:World} {R:Px→AtV × Bool} {ks:List Px} {us:List Value} (hn:ks.Nodup) (hl:ks.length*8≤us.length) (h:VRs g w (ks.flatMap (gi m R)) (us.take (ks.length*8))) {i:Nat} {p:Px} (hp:ks[i]?=some p):
  VRs g w (gi m R p) (jJ (ji ks us) p)∧(us.drop (i*8)).take 8=jJ (ji ks us) p:=by
 obtain ⟨hi,hpi⟩:=List.getElem?_eq_some_iff.1 hp
 have hm:p∈ks:=by rw [←hpi];exact List.getElem_mem hi
 have hx:ks.idxOf p=i:=rF hn hp
 have hs:(ks.flatMap (gi m R)).drop (i*8)=gi m R p++(ks.drop (i+1)).flatMap (gi m R):=by
  have:∀(l:List Px) (i:Nat),l[i]?=some p→(l.flatMap (gi m R)).drop (i*8)=gi m R p++(l.drop (i+1)).flatMap (gi m R):=by
   intro l
   induction l with
   | nil=>intro i h;simp at h
   | cons a l ih=>
    intro i h
    cases i with
    | zero=>
     simp at h;subst h
     rw [List.flatMap_cons];rfl
    | succ i=>
     rw [List.flatMap_cons,show (i+1)*8=(gi m R a).length+i*8 by rw [nw];omega,List.drop_append,List.drop_of_length_le (by omega),Nat.add_sub_cancel_left,List.nil_append]
     exact ih i (by simpa using h)
  exact this ks i hp
 have h2:=(h.drop (i*8)).take 8
 rw [hs,List.take_left' (nw m R p),List.drop_take,List.take_take,show min 8 (ks.length*8-i*8)=8 by omega] at h2
 have hu:(us.drop (i*8)).take 8=jJ (ji ks us) p:=by
  have hl8:((us.drop (i*8)).take 8).length=8:=by rw [h2.1];rfl
  have hg:∀j,j<8→((us.drop (i*8)).take 8)[j]?=us[i*8+j]?:=fun j hj=>by
   rw [List.getElem?_take,if_pos hj,List.getElem?_drop]
  have hin:∀j,j<8→i*8+j<us.length:=fun j hj=>by omega
  have hval:∀(j:Nat) (v:Value) (hj:j<8),(gi m R p)[j]?=some (.val v)→us[i*8+j]'(hin j hj)=v:=fun j v hj hc=>by
   have:=h2.2 j (.val v) (us[i*8+j]'(hin j hj)) hc (by rw [hg j hj,List.getElem?_eq_getElem (hin j hj)])
   generalize us[i*8+j]'(hin j hj)=u at this
   cases this;rfl
  have hV:∀j (hj:j+2<8),ji ks us p j=us[i*8+(j+2)]'(hin _ hj):=fun j hj=>by
   unfold ji
   rw [if_pos hm,hx,List.getElem?_eq_getElem (hin _ hj)];rfl
  apply List.ext_getElem?
  intro j
  by_cases hj:j<8
  ·rw [hg j hj,List.getElem?_eq_getElem (hin j hj)]
   match j,hj with
   | 0,_=>rw [hval 0 (.int .u32 p.1) (by omega) rfl];rfl
   | 1,_=>rw [hval 1 (.int .i64 p.2) (by omega) rfl];rfl
   | 2,_=>rw [←hV 0 (by omega)];rfl
   | 3,_=>rw [←hV 1 (by omega)];rfl
   | 4,_=>rw [←hV 2 (by omega)];rfl
   | 5,_=>rw [←hV 3 (by omega)];rfl
   | 6,_=>rw [←hV 4 (by omega)];rfl
   | 7,_=>rw [←hV 5 (by omega)];rfl
  ·rw [List.getElem?_eq_none (by omega),List.getElem?_eq_none (by show 8≤j;omega)]
 exact ⟨hu▸h2,hu⟩
theorem vW {enc:Px→List Value}:∀(ks:List Px) (us:List Value),(∀i p,ks[i]?=some p→(us.drop (i*8)).take 8=enc p)→us.take (ks.length*8)=ks.flatMap enc
 | [],us,_=>by simp
 | a::l,us,h=>by
  rw [List.flatMap_cons,←h 0 a rfl,←vW l (us.drop 8) (fun i p hp=>by
   have:=h (i+1) p (by simpa using hp)
   rw [show (i+1)*8=8+i*8 by omega] at this
   rw [List.drop_drop];exact this)]
  rw [List.length_cons,show (l.length+1)*8=8+l.length*8 by omega,List.take_add];rfl
theorem zH {G:ay} (m:Nat) (R:Px→AtV × Bool) (ks:List Px) (hn:ks.Nodup) (hl:ks.length<4611686018427387904):VCx Try.prog G 0 t6 [.row 8 0 0 ks.length, .fn (.func 57) [] []] ⟨[.row (ks.map (gi m R)).flatten], []⟩ fun x T' =>x= .val (.tuple #[])∧T' =⟨[.row ((ea ks).map (gi m R)).flatten], []⟩:=by
 rw [←List.flatMap_def,←List.flatMap_def]
 intro g w us r hG hx
 match us,hx.1 with
 | [u,f],_=>
  obtain ⟨b,c,f1,f2,f3,f4,f5,rfl⟩:=(hx.2 0 _ u rfl rfl).row_inv
  obtain ⟨us,vs,rfl,h3,h4⟩:=(hx.2 1 _ f rfl rfl).fn_inv
  have e3:us= []:=List.eq_nil_of_length_eq_zero h3.1
  have e4:vs= []:=List.eq_nil_of_length_eq_zero h4.1
  subst e3 e4
  obtain ⟨b',q1,⟨us,ty,q2,q3,q4,q5⟩,_⟩:=r.obj 0 _ rfl rfl
  rw [f1] at q1;injection q1 with q1;subst q1
  have hfix:∀(T' :VT) (w' :World),T'.objs.length=1→Fix 0 g ⟨[.row (ks.flatMap (gi m R))], []⟩ w T' w' :=fun T' w' h=>⟨by simp [h],fun i hi=>absurd hi (Nat.not_lt_zero i),fun i o b hi=>absurd hi (Nat.not_lt_zero i)⟩
  rcases Nat.eq_zero_or_pos ks.length with h0 | hpos
  ·have:ks= []:=List.eq_nil_of_length_eq_zero h0
   subst this
   refine (AnyF.slices_SortFunc_none Try.sortCh (some ⟨b,0*8,none⟩) c _ w).mono fun e w' ⟨he,hw⟩=> ?_
   subst hw
   exact ⟨.tuple #[],_,g,_,he,⟨rfl,by simp [ea]⟩,Evo.refl _ _,r, .val _,hfix _ _ rfl⟩
  ·have hcs:=aN q2
   rw [List.size_toArray] at hcs
   have hul:us.length=c*8:=by rw [←hcs,←f5];omega
   have hlen:(ks.flatMap (gi m R)).length=ks.length*8:=mH (gi m R) 8 (nw m R) ks
   rw [hlen] at q3 q4 q5
   have hrow:=fun i p (hp:ks[i]?=some p)=>FN (m:=m) (R:=R) hn q3 q4 hp
   have htk:us.take (ks.length*8)=ks.flatMap (jJ (ji ks us)):=vW ks us fun i p hp=>(hrow i p hp).2
   have hone:∀x,∀v∈jJ (ji ks us) x,v.oneCell' =true:=fun x v hv=>by
    by_cases hm:x∈ks
    ·refine q5 v ?_
     rw [htk]
     exact List.mem_flatMap.2 ⟨x,hm,hv⟩
    ·simp only [jJ,ji,if_neg hm,List.mem_cons,List.not_mem_nil,or_false] at hv
     rcases hv with rfl | rfl | rfl | rfl | rfl | rfl | rfl | rfl<;>rfl
   have hown:w.ownsRow 0 ty 8 (.slice (some ⟨b,0,none⟩) ks.toArray.size c) ks.toArray.size (ks.toArray.toList.flatMap (jJ (ji ks us))):=by
    refine ⟨by simp [og (jJ (ji ks us)) 8 (kG _)], .inr ⟨b,c,us.toArray,by simp,Nat.zero_le _,q2,by simpa using f3,f4,by simpa using hul, ?_⟩⟩
    simpa [og (jJ (ji ks us)) 8 (kG _)] using htk
   obtain ⟨g',cap',hv,hb',hg',hH⟩:=xW (jJ (ji ks us)) 8 (kG _) ks.toArray hown (by simpa using hpos)
   injection hv with p1 _ p3
   injection p1 with p1;injection p1 with p1
   subst p1 p3
   have hs:ks.toArray.size<4611686018427387904:=by simpa using hl
   have eg:∀args w,(callFunc 57 args).run Try.prog w= .ok (.enter 57 args) w:=enters_of Try.func57 (by kernel_rfl) rfl
   have hcon:=AnyQ.slices_SortFunc_total Try.sortCh 8 Try.isAgg34 Try.sizeOf34 (jJ (ji ks us)) (kG _) hone kF FH 57 #[] b 0 c ks.toArray w eg (Ht (ji ks us) b 0 _ w) hH hg' hs BU
   refine Calls.mono hcon fun _ _ ⟨he,n,os,hw⟩=> ?_
   obtain ⟨e1,r1⟩:=yT (gi m R) (jJ (ji ks us)) 8 (nw m R) (kG _) hone (l:=ks) (l' :=ea ks) (List.mergeSort_perm _ _) r rfl f1 (fun p hm=>by
    obtain ⟨i,hi,hp⟩:=List.getElem_of_mem hm
    exact (hrow i p (by rw [List.getElem?_eq_getElem hi,hp])).1) hw
   exact ⟨.tuple #[],_,g,_,he,⟨rfl,rfl⟩,e1,r1, .val _,hfix _ _ rfl⟩
end

end Go.Proofs.Ytnfplefcghadfaa