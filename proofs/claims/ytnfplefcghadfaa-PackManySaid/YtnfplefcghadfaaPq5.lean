/-Part 5 of the proof of packMany_holds:Po1,RbLays,Po2 ... No condition. -/
import Derived.Shelf.SlSortCmp.NoneTotal
import Derived.Ground.SlsfProg
import Derived.Test.YtnfplefcghadfaaProg
import Derived.Laws.BitsAllLaws
import Derived.Test.YtnfplefcghadfaaPq1
import Derived.Test.YtnfplefcghadfaaPq2
import Derived.Test.YtnfplefcghadfaaPq3
import Derived.Test.YtnfplefcghadfaaPq4
set_option maxRecDepth 100000
--Wire
namespace Go.Proofs.Ytnfplefcghadfaa
section
open Go.RowKit

theorem BH:(Try.prog.info? 5).map (fun i=>(i.zero,i.size,i.bytes))=some (some (.int .u8 0),1,1):=by kernel_rfl

def cR (n size:Nat):List Nat:=(List.range size).map fun k=>n/2^(8*(size-1-k))%256

theorem xH (n size k:Nat) (h:k<size):(cR n size).take (k+1)=(cR n size).take k++ [n/2^(8*(size-1-k))%256]:=by
 rw [List.take_succ_eq_append_getElem (by simpa [cR] using h)]
 simp [cR]
theorem zF (n size:Nat):(cR n size).take size=cR n size:=List.take_of_length_le (by simp [cR])

set_option maxHeartbeats 400000 in
theorem wb (b:Value) (nb:Nat) (bs:List Value) (h1:∀u∈bs,u.oneCell' =true) (n:Nat) (size:Nat) (hs:size≤8) (hnb:nb≤1099511627776) (w:World) (hb:Rd w 1 b nb bs):
  Calls Try.prog 138 #[b, .int .u64 n, .int .i64 size] w (Rets w fun v w' =>w'.ownsRow w.heap.size 5 1 v (nb+size) (bs++fh (cR n size))):=by
 obtain ⟨i0,hi,hz0,hz1,hz2⟩:=info_parts BH
 have hb' :=hb
 obtain ⟨_,p,c,rfl,_,_,_,_⟩:=hb'
 have HB:=Lib.hid hb
 have H1:=Lib.hid h1
 clear hb h1
 rename_i z1 z2 z3 z4 z5
 clear z1 z3 z4 z5
 have hi' :=Lib.hid hi
 clear hi
 go_enter Try.func138,Try.ntmps138
 go_wp2_with (first | (at_make;refine yT 5 w.heap.size i0 (.int .u8 0) 1 1 Try.underlying108 hi'.out hz0 hz1 hz2 nb (nb+size) .i64 .i64 _ _ (by rfl) (by rfl) rfl (by omega) (by omega) (by omega) (by unfold maxLen;omega) (Nat.le_refl _) (fun v1 w1 own1 g1 hv1=> ?_)) | (refine yU w.heap.size 5 Try.underlying108 (by kernel_rfl) _ nb _ (by rfl) (by assumption) _ nb bs (by rfl) (HB.out.gr (by assumption)) H1.out (fun w2 own2 gb2=> ?_)))
 have gr2:=rh g1 (Nat.le_refl _) own1 gb2
 have own3:w2.ownsRow w.heap.size 5 1 v1 nb bs:=by
  have hl:=HB.out.len
  have e:List.take nb bs++List.drop nb (List.take (nb*1) (madeCells (Value.int IntKind.u8 0).cells ((nb+size)*1)).toList)=bs:=by
   rw [List.take_of_length_le (by omega),List.drop_eq_nil_of_le (by rw [List.length_take];omega),List.append_nil]
  rwa [e] at own2
 clear own2 gb2 own1 g1 hv1
 go_loopw [7,8] (fun v i wr=>∃j k:Nat,j+k=size∧i= .int .i64 ((j:Int)-1)∧wr.ownsRow w.heap.size 5 1 v (nb+k) (bs++fh ((cR n size).take k))∧Gr w wr) (fun _ i _=>(intOf i+1).toNat)
 case atStart=>exact ⟨size,0,rfl,rfl,by simpa [fh] using own3,gr2⟩
 case round=>
  obtain ⟨j,k,hk,rfl,hown,hgr⟩:=hrel
  have HO:=Lib.hid hown
  have HK:=Lib.hid hk
  have hks:k≤size:=by omega
  clear hown own3 hk
  cases j with
  | zero=>
   have e:k=size:=by have:=HK.out;omega
   subst e
   go_wp2
   go_ret
   refine Rets.mk hgr ?_
   have:=HO.out
   rwa [zF] at this
  | succ j=>
   have hj8:j<8:=by have:=HK.out;omega
   rw [show (((j+1:Nat):Int)-1)=(j:Int) by omega]
   go_wp2_with (at_builtin;go_loud (refine Bo w.heap.size 5 i0 (.int .u8 0) 1 1 Try.underlying108 hi'.out hz0 hz1 hz2 rfl (by decide) _ (nb+k) _ (by rfl) (World.ownsRow.alloc HO.out _) _ 1 [_] (by rfl) (Rd.new _ [_] _ 1 1 rfl (by decide)) (by intro u hu;simp at hu;subst hu;rfl) (by unfold maxLen;omega) (by omega) (by have:=Gr.size hgr;simp;omega) (fun v1 w1 own1 gb1=> ?_)))
   go_roundw
   case rel=>
    refine ⟨j,k+1,by have:=HK.out;omega,rfl, ?_,rh (hgr.alloc _) (Nat.le_refl _) (HO.out.alloc _) gb1⟩
    have hk1:k<size:=by have:=HK.out;omega
    rw [xH n size k hk1,yS,←List.append_assoc]
    have e:size-1-k=j:=by have:=HK.out;omega
    rw [e]
    exact own1
   case measure=>simp [intOf]

end
--MsA
section
open Go.RowKit

theorem sq (q:IntKind) (x y:Int):bb BinOp.eql (ak (.int q x) (.int q y))=decide (x=y):=by
 simp [bb,ak,bZ,Bool.beq_eq_decide_eq]
theorem Da (q:IntKind) (x y:Int):bb BinOp.neq (ak (.int q x) (.int q y))= !decide (x=y):=by
 simp [bb,ak,bZ,Bool.beq_eq_decide_eq]
theorem iG:∃inf:TypeInfo,Try.prog.info? 5=some inf∧inf.size=1∧inf.bytes+1=2∧inf.zero=some (.int .u8 0):=
 ⟨(Try.prog.info? 5).getD default,by kernel_rfl,by kernel_rfl,by kernel_rfl,by kernel_rfl⟩
section
variable {x i m:Operand} {l:List (Nat × TV)} {b:Bs} {tok:Tok} {k k' :IntKind} {z z' :Int} {e:List TV} {n n' :Nat}
theorem lX (hx:aN ae l x= .vec 1 b tok) (hz:aN ae l i= .val (.int k z)) (h0:0≤z) (hn:z.toNat=n) (he:n≤b.length):aU Try.prog ae (.slice 108 x none (some i) none) l (.vec 1 (b.take n) .none):=by
 subst hn
 obtain ⟨inf,i1,i2,_,_⟩:=iG
 have h:=sj (inf:=inf) (P:=Try.prog) (G:=ae) (x:=x) (i:=i) (l:=l) (es:=b) (tok:=tok) Try.underlying108 i1 (by rw [i2];exact hx) hz h0 he
 rw [i2] at h
 exact h
theorem mP {ro:Nat} {T T1:VT} {s:Operand} {es es2:Bs} {bn:Bool} {k n:Nat} (hs:eR T 1 (aN ae l s)=some (es,k,n,bn,T1)) (hx:gu 1 (aN ae l x)=some es2) (hb:es.length+es2.length≤70368744177664):
    aW Try.prog ae ro T (.call ⟨.builtin .append, #[s,x], #[108,108]⟩) l (.vec 1 (es++es2) (.tail k (n+es2.length))) {T1 with tails:=T1.tails.set k (n+es2.length,1,bn)}:=by
  obtain ⟨inf,i1,i2,i3,i4⟩:=iG
  have h:=lV (inf:=inf) (P:=Try.prog) (G:=ae) (ro:=ro) (T:=T) (T1:=T1) (t:=108) (tx:=108) (s:=s) (x:=x) (l:=l) (es:=es) (es2:=es2) (k:=k) (n:=n) (bn:=bn) Try.underlying108 i1 i4 (by rw [i2];rfl) (by rw [i2];decide) (by kernel_rfl) (by rw [i2];exact hs) (by rw [i2];exact hx)
    (by rw [i3];omega)
  rw [i2] at h
  exact h
end
end
--MsB
section
open Go.RowKit

theorem cj {z:Int} (h0:-1000000000000000≤z) (h1:z≤1000000000000000):IntKind.i64.wrap z=z:=by
 simp only [IntKind.wrap,IntKind.bits,IntKind.signed];simp;omega
end
--MbA
section
open Go.RowKit

abbrev dz:=138
def xI (k n:Nat):List Int:=(cR n k).map fun z:Nat=>(z:Int)
def ng (k n:Nat):Bs:=bV (xI k n)
theorem ur (k n:Nat):(ng k n).length=k:=by simp [ng,bV,xI,cR]
theorem Db (k n:Nat):∀z∈xI k n,0≤z∧z<256:=by
 intro z hz
 obtain ⟨m,hm,rfl⟩:=List.mem_map.1 hz
 obtain ⟨i,_,rfl⟩:=List.mem_map.1 hm
 have:n/2^(8*(k-1-i))%256<256:=Nat.mod_lt _ (by decide)
 omega
theorem su {k n:Nat} (hk:k≤8):IsB (ng k n):=⟨⟨_,rfl,Db k n⟩,by rw [ur];omega⟩
theorem oU (k n:Nat):fh (cR n k)=dM (xI k n):=by simp [fh,dM,xI,Function.comp_def]
theorem BI {b:Bs} (hb:IsB b) (hne:b≠ []) (tok:Tok) {n k:Nat} (hk:k≤8):VCx Try.prog ae 0 dz [.vec 1 b tok, .val (.int .u64 n), .val (.int .i64 k)] ⟨[], []⟩ fun x T' =>x= .vec 1 (b++ng k n) .none∧T' =⟨[], []⟩:=by
  obtain ⟨⟨l,rfl,hl⟩,hlen⟩:=hb
  have hne2:l≠ []:=fun h=>hne (by rw [h];rfl)
  have hll:(bV l).length=l.length:=by simp [bV]
  rw [hll] at hlen
  have hvs:(dM l++fh (cR n k)).length=l.length+k:=by simp [dM,fh,cR]
  have h:=VCx.ofOwn (P:=Try.prog) (G:=ae) (f:=dz) (xs:= [.vec 1 (bV l) tok, .val (.int .u64 n), .val (.int .i64 k)]) (ty:=5) (vs:=dM l++fh (cR n k)) (fun v hv=> ?_) (by rw [hvs];unfold maxLen;omega) (fun g w us hx=> ?_)
  · refine h.mono ?_
    rintro x T' ⟨rfl,rfl⟩
    refine ⟨?_,rfl⟩
    rw [List.map_append,←gm,oU,←gm];rfl
  · rcases List.mem_append.1 hv with hv | hv
    · obtain ⟨z,_,rfl⟩:=List.mem_map.1 hv;rfl
    · obtain ⟨z,_,rfl⟩:=List.mem_map.1 hv;rfl
  · match us,hx.1 with
    | [v,u1,u2],_=>
      have hv:=hx.2 0 _ v rfl rfl
      obtain rfl:=(hx.2 1 _ u1 rfl rfl).val_inv
      obtain rfl:=(hx.2 2 _ u2 rfl rfl).val_inv
      have:=wb v l.length (dM l) (fun u hu=>by obtain ⟨z,_,rfl⟩:=List.mem_map.1 hu;rfl) n k hk (by omega) w (xF hv hne2)
      rw [hvs];exact this
theorem zG {n k:Nat} (hk:k≤8):VCx Try.prog ae 0 dz [.val (.slice none 0 0), .val (.int .u64 n), .val (.int .i64 k)] ⟨[], []⟩ fun x T' =>x= .vec 1 (ng k n) .none∧T' =⟨[], []⟩:=by
 have hvs:(fh (cR n k)).length=k:=by simp [fh,cR]
 have h:=VCx.ofRetsT (P:=Try.prog) (G:=ae) (f:=dz) (xs:= [.val (.slice none 0 0), .val (.int .u64 n), .val (.int .i64 k)]) (us:= [.slice none 0 0, .int .u64 n, .int .i64 k]) rfl (ty:=5) (vs:=fh (cR n k)) (fun v hv=>by obtain ⟨z,_,rfl⟩:=List.mem_map.1 hv;rfl) (by rw [hvs];unfold maxLen;omega) (fun w=>by
  have:=wb (.slice none 0 0) 0 [] (by simp) n k hk (by omega) w (Rd.nil w 1)
  rw [hvs]
  simpa using this)
 refine h.mono ?_
 rintro x T' ⟨rfl,rfl⟩
 refine ⟨?_,rfl⟩
 rw [oU,←gm];rfl
end
--MsP
section
open Go.RowKit

def nh (n:Int):Prop:=0≤n∧n≤32
def xJ (n:Int):Int:=4294967296-2^(32-n).toNat
def AR (a n:Int):Int:=IntKind.wrap .u32 (BitVec.toNat (BitVec.ofInt (IntKind.bits .u32) a&&&BitVec.ofInt (IntKind.bits .u32) (xJ n)):Nat)

abbrev bN:=123
abbrev nM:=92
def Dc:aO:=fun _ ys T K=>match ys with
 | [.val (.int .i64 n)]=>nh n∧K (.val (.int .u32 (xJ n))) T
 | _=>False
theorem BJ (Q:TV→VT→Prop):an Try.prog ae bc aF 300 ay 0 bN [.val (.int .i64 0)] ⟨[], []⟩ Q=
Q (.val (.int .u32 0)) ⟨[], []⟩:=by kernel_rfl
theorem BK (Q:TV→VT→Prop):an Try.prog ae bc aF 300 ay 0 bN [.val (.int .i64 1)] ⟨[], []⟩ Q=
Q (.val (.int .u32 2147483648)) ⟨[], []⟩:=by kernel_rfl
theorem BL (Q:TV→VT→Prop):an Try.prog ae bc aF 300 ay 0 bN [.val (.int .i64 2)] ⟨[], []⟩ Q=
Q (.val (.int .u32 3221225472)) ⟨[], []⟩:=by kernel_rfl
theorem BM (Q:TV→VT→Prop):an Try.prog ae bc aF 300 ay 0 bN [.val (.int .i64 3)] ⟨[], []⟩ Q=
Q (.val (.int .u32 3758096384)) ⟨[], []⟩:=by kernel_rfl
theorem BN (Q:TV→VT→Prop):an Try.prog ae bc aF 300 ay 0 bN [.val (.int .i64 4)] ⟨[], []⟩ Q=
Q (.val (.int .u32 4026531840)) ⟨[], []⟩:=by kernel_rfl
theorem BO (Q:TV→VT→Prop):an Try.prog ae bc aF 300 ay 0 bN [.val (.int .i64 5)] ⟨[], []⟩ Q=
Q (.val (.int .u32 4160749568)) ⟨[], []⟩:=by kernel_rfl
theorem BP (Q:TV→VT→Prop):an Try.prog ae bc aF 300 ay 0 bN [.val (.int .i64 6)] ⟨[], []⟩ Q=
Q (.val (.int .u32 4227858432)) ⟨[], []⟩:=by kernel_rfl
theorem BQ (Q:TV→VT→Prop):an Try.prog ae bc aF 300 ay 0 bN [.val (.int .i64 7)] ⟨[], []⟩ Q=
Q (.val (.int .u32 4261412864)) ⟨[], []⟩:=by kernel_rfl
theorem BS (Q:TV→VT→Prop):an Try.prog ae bc aF 300 ay 0 bN [.val (.int .i64 8)] ⟨[], []⟩ Q=
Q (.val (.int .u32 4278190080)) ⟨[], []⟩:=by kernel_rfl
theorem BT (Q:TV→VT→Prop):an Try.prog ae bc aF 300 ay 0 bN [.val (.int .i64 9)] ⟨[], []⟩ Q=
Q (.val (.int .u32 4286578688)) ⟨[], []⟩:=by kernel_rfl
theorem zH (Q:TV→VT→Prop):an Try.prog ae bc aF 300 ay 0 bN [.val (.int .i64 10)] ⟨[], []⟩ Q=
Q (.val (.int .u32 4290772992)) ⟨[], []⟩:=by kernel_rfl
theorem zI (Q:TV→VT→Prop):an Try.prog ae bc aF 300 ay 0 bN [.val (.int .i64 11)] ⟨[], []⟩ Q=
Q (.val (.int .u32 4292870144)) ⟨[], []⟩:=by kernel_rfl
theorem zJ (Q:TV→VT→Prop):an Try.prog ae bc aF 300 ay 0 bN [.val (.int .i64 12)] ⟨[], []⟩ Q=
Q (.val (.int .u32 4293918720)) ⟨[], []⟩:=by kernel_rfl
theorem zK (Q:TV→VT→Prop):an Try.prog ae bc aF 300 ay 0 bN [.val (.int .i64 13)] ⟨[], []⟩ Q=
Q (.val (.int .u32 4294443008)) ⟨[], []⟩:=by kernel_rfl
theorem zL (Q:TV→VT→Prop):an Try.prog ae bc aF 300 ay 0 bN [.val (.int .i64 14)] ⟨[], []⟩ Q=
Q (.val (.int .u32 4294705152)) ⟨[], []⟩:=by kernel_rfl
theorem zM (Q:TV→VT→Prop):an Try.prog ae bc aF 300 ay 0 bN [.val (.int .i64 15)] ⟨[], []⟩ Q=
Q (.val (.int .u32 4294836224)) ⟨[], []⟩:=by kernel_rfl
theorem zN (Q:TV→VT→Prop):an Try.prog ae bc aF 300 ay 0 bN [.val (.int .i64 16)] ⟨[], []⟩ Q=
Q (.val (.int .u32 4294901760)) ⟨[], []⟩:=by kernel_rfl
theorem zO (Q:TV→VT→Prop):an Try.prog ae bc aF 300 ay 0 bN [.val (.int .i64 17)] ⟨[], []⟩ Q=
Q (.val (.int .u32 4294934528)) ⟨[], []⟩:=by kernel_rfl
theorem zQ (Q:TV→VT→Prop):an Try.prog ae bc aF 300 ay 0 bN [.val (.int .i64 18)] ⟨[], []⟩ Q=
Q (.val (.int .u32 4294950912)) ⟨[], []⟩:=by kernel_rfl
theorem zS (Q:TV→VT→Prop):an Try.prog ae bc aF 300 ay 0 bN [.val (.int .i64 19)] ⟨[], []⟩ Q=
Q (.val (.int .u32 4294959104)) ⟨[], []⟩:=by kernel_rfl
theorem zT (Q:TV→VT→Prop):an Try.prog ae bc aF 300 ay 0 bN [.val (.int .i64 20)] ⟨[], []⟩ Q=
Q (.val (.int .u32 4294963200)) ⟨[], []⟩:=by kernel_rfl
theorem zU (Q:TV→VT→Prop):an Try.prog ae bc aF 300 ay 0 bN [.val (.int .i64 21)] ⟨[], []⟩ Q=
Q (.val (.int .u32 4294965248)) ⟨[], []⟩:=by kernel_rfl
theorem zV (Q:TV→VT→Prop):an Try.prog ae bc aF 300 ay 0 bN [.val (.int .i64 22)] ⟨[], []⟩ Q=
Q (.val (.int .u32 4294966272)) ⟨[], []⟩:=by kernel_rfl
theorem zW (Q:TV→VT→Prop):an Try.prog ae bc aF 300 ay 0 bN [.val (.int .i64 23)] ⟨[], []⟩ Q=
Q (.val (.int .u32 4294966784)) ⟨[], []⟩:=by kernel_rfl
theorem zX (Q:TV→VT→Prop):an Try.prog ae bc aF 300 ay 0 bN [.val (.int .i64 24)] ⟨[], []⟩ Q=
Q (.val (.int .u32 4294967040)) ⟨[], []⟩:=by kernel_rfl
theorem zY (Q:TV→VT→Prop):an Try.prog ae bc aF 300 ay 0 bN [.val (.int .i64 25)] ⟨[], []⟩ Q=
Q (.val (.int .u32 4294967168)) ⟨[], []⟩:=by kernel_rfl
theorem zZ (Q:TV→VT→Prop):an Try.prog ae bc aF 300 ay 0 bN [.val (.int .i64 26)] ⟨[], []⟩ Q=
Q (.val (.int .u32 4294967232)) ⟨[], []⟩:=by kernel_rfl
theorem z6 (Q:TV→VT→Prop):an Try.prog ae bc aF 300 ay 0 bN [.val (.int .i64 27)] ⟨[], []⟩ Q=
Q (.val (.int .u32 4294967264)) ⟨[], []⟩:=by kernel_rfl
theorem z7 (Q:TV→VT→Prop):an Try.prog ae bc aF 300 ay 0 bN [.val (.int .i64 28)] ⟨[], []⟩ Q=
Q (.val (.int .u32 4294967280)) ⟨[], []⟩:=by kernel_rfl
theorem z8 (Q:TV→VT→Prop):an Try.prog ae bc aF 300 ay 0 bN [.val (.int .i64 29)] ⟨[], []⟩ Q=
Q (.val (.int .u32 4294967288)) ⟨[], []⟩:=by kernel_rfl
theorem Aa (Q:TV→VT→Prop):an Try.prog ae bc aF 300 ay 0 bN [.val (.int .i64 30)] ⟨[], []⟩ Q=
Q (.val (.int .u32 4294967292)) ⟨[], []⟩:=by kernel_rfl
theorem Ab (Q:TV→VT→Prop):an Try.prog ae bc aF 300 ay 0 bN [.val (.int .i64 31)] ⟨[], []⟩ Q=
Q (.val (.int .u32 4294967294)) ⟨[], []⟩:=by kernel_rfl
theorem Ac (Q:TV→VT→Prop):an Try.prog ae bc aF 300 ay 0 bN [.val (.int .i64 32)] ⟨[], []⟩ Q=
Q (.val (.int .u32 4294967295)) ⟨[], []⟩:=by kernel_rfl
theorem xK (a n:Int) (Q:TV→VT→Prop):an Try.prog ae (aw [(bN,Dc)]) (aV [(999999, .dead,none)]) 300 ay 0 nM [.agg [.val (.int .u32 a), .val (.int .i64 n)]] ⟨[], []⟩ Q=
 (nh (if (32:Int)<if (0:Int)>n then (0:Int) else n then (32:Int) else if (0:Int)>n then (0:Int) else n)∧
 Q (.agg [(.val (.int .u32 (IntKind.wrap IntKind.u32 (↑(BitVec.toNat (BitVec.ofInt (IntKind.bits IntKind.u32) a&&&BitVec.ofInt (IntKind.bits IntKind.u32) (xJ (if (32:Int)<if (0:Int)>n then (0:Int) else n then (32:Int) else if (0:Int)>n then (0:Int) else n)))):Int)))),(.val (.int .i64 (if (32:Int)<if (0:Int)>n then (0:Int) else n then (32:Int) else if (0:Int)>n then (0:Int) else n)))]) ⟨[(.cells [(.val (.int .u32 (a))),(.val (.int .i64 (n)))]),(.cells [(.val (.int .u32 (IntKind.wrap IntKind.u32 (↑(BitVec.toNat (BitVec.ofInt (IntKind.bits IntKind.u32) a&&&BitVec.ofInt (IntKind.bits IntKind.u32) (xJ (if (32:Int)<if (0:Int)>n then (0:Int) else n then (32:Int) else if (0:Int)>n then (0:Int) else n)))):Int)))),(.val (.int .i64 (if (32:Int)<if (0:Int)>n then (0:Int) else n then (32:Int) else if (0:Int)>n then (0:Int) else n)))])], []⟩):=by kernel_rfl
end
--MsQ
section
open Go.RowKit

theorem xL {n:Int} (h:nh n):n=0∨n=1∨n=2∨n=3∨n=4∨n=5∨n=6∨n=7∨n=8∨n=9∨n=10∨n=11∨n=12∨n=13∨n=14∨n=15∨n=16∨n=17∨n=18∨n=19∨n=20∨n=21∨n=22∨n=23∨n=24∨n=25∨n=26∨n=27∨n=28∨n=29∨n=30∨n=31∨n=32:=by
 obtain ⟨h0,h1⟩:=h;omega
theorem BU {n:Int} (h:nh n):VCx Try.prog ae 0 bN [.val (.int .i64 n)] ⟨[], []⟩ fun x T' =>x= .val (.int .u32 (xJ n))∧T' =⟨[], []⟩:=by
 rcases xL h with rfl | rfl | rfl | rfl | rfl | rfl | rfl | rfl | rfl | rfl | rfl | rfl | rfl | rfl | rfl | rfl | rfl | rfl | rfl | rfl | rfl | rfl | rfl | rfl | rfl | rfl | rfl | rfl | rfl | rfl | rfl | rfl | rfl
 ·exact ah ac aa ai ag (BJ _) ⟨rfl,rfl⟩
 ·exact ah ac aa ai ag (BK _) ⟨rfl,rfl⟩
 ·exact ah ac aa ai ag (BL _) ⟨rfl,rfl⟩
 ·exact ah ac aa ai ag (BM _) ⟨rfl,rfl⟩
 ·exact ah ac aa ai ag (BN _) ⟨rfl,rfl⟩
 ·exact ah ac aa ai ag (BO _) ⟨rfl,rfl⟩
 ·exact ah ac aa ai ag (BP _) ⟨rfl,rfl⟩
 ·exact ah ac aa ai ag (BQ _) ⟨rfl,rfl⟩
 ·exact ah ac aa ai ag (BS _) ⟨rfl,rfl⟩
 ·exact ah ac aa ai ag (BT _) ⟨rfl,rfl⟩
 ·exact ah ac aa ai ag (zH _) ⟨rfl,rfl⟩
 ·exact ah ac aa ai ag (zI _) ⟨rfl,rfl⟩
 ·exact ah ac aa ai ag (zJ _) ⟨rfl,rfl⟩
 ·exact ah ac aa ai ag (zK _) ⟨rfl,rfl⟩
 ·exact ah ac aa ai ag (zL _) ⟨rfl,rfl⟩
 ·exact ah ac aa ai ag (zM _) ⟨rfl,rfl⟩
 ·exact ah ac aa ai ag (zN _) ⟨rfl,rfl⟩
 ·exact ah ac aa ai ag (zO _) ⟨rfl,rfl⟩
 ·exact ah ac aa ai ag (zQ _) ⟨rfl,rfl⟩
 ·exact ah ac aa ai ag (zS _) ⟨rfl,rfl⟩
 ·exact ah ac aa ai ag (zT _) ⟨rfl,rfl⟩
 ·exact ah ac aa ai ag (zU _) ⟨rfl,rfl⟩
 ·exact ah ac aa ai ag (zV _) ⟨rfl,rfl⟩
 ·exact ah ac aa ai ag (zW _) ⟨rfl,rfl⟩
 ·exact ah ac aa ai ag (zX _) ⟨rfl,rfl⟩
 ·exact ah ac aa ai ag (zY _) ⟨rfl,rfl⟩
 ·exact ah ac aa ai ag (zZ _) ⟨rfl,rfl⟩
 ·exact ah ac aa ai ag (z6 _) ⟨rfl,rfl⟩
 ·exact ah ac aa ai ag (z7 _) ⟨rfl,rfl⟩
 ·exact ah ac aa ai ag (z8 _) ⟨rfl,rfl⟩
 ·exact ah ac aa ai ag (Aa _) ⟨rfl,rfl⟩
 ·exact ah ac aa ai ag (Ab _) ⟨rfl,rfl⟩
 ·exact ah ac aa ai ag (Ac _) ⟨rfl,rfl⟩
theorem ut:∀ro ys T K,Dc ro ys T K→VCx Try.prog ae ro bN ys T K:=by
 intro ro ys T K hw
 unfold Dc at hw
 split at hw
 ·exact VCx.liftPure am (BU hw.1) rfl (fun _ _=>rfl) hw.2
 ·exact hw.elim
theorem BV (a:Int) {n:Int} (h:nh n):VCx Try.prog ae 0 nM [.agg [.val (.int .u32 a), .val (.int .i64 n)]] ⟨[], []⟩ fun x T' =>x= .agg [.val (.int .u32 (AR a n)), .val (.int .i64 n)]∧T' =⟨[], []⟩:=by
 refine VCx.keepQ 0 0 (Nat.le_refl _) (Nat.le_refl _) (ah ac aa (az fun p hp=>by obtain rfl:=List.mem_singleton.1 hp;exact ut) ag (xK a n _) ?_)
 have e:(if (32:Int)<if (0:Int)>n then (0:Int) else n then (32:Int) else if (0:Int)>n then (0:Int) else n)=n:=by
  obtain ⟨h0,h1⟩:=h
  rw [if_neg (show ¬(0:Int)>n by omega),if_neg (by omega)]
 rw [e]
 exact ⟨h,rfl,rfl⟩
end
--MsR
section
open Go.RowKit

def cH (p:Int × Int):List TV:= [.val (.int .u32 p.1), .val (.int .i64 p.2)]
end
--MsS
section
open Go.RowKit

theorem nN:∃inf:TypeInfo,Try.prog.info? 29=some inf∧inf.size=2∧inf.bytes+1≤1000∧inf.zero=some (.agg #[.int .u32 0, .int .i64 0]):=
 ⟨(Try.prog.info? 29).getD default,by kernel_rfl,by kernel_rfl,Nat.le_of_ble_eq_true (by kernel_rfl),by kernel_rfl⟩
theorem iH (f g:Nat→Option Nat):∀l:List (Int × Int),bf f g (l.map cH)=l.map cH
 | []=>rfl
 | a::l=>by simp only [List.map_cons,bf,iH f g l];rfl
end
--MsX
section
open Go.RowKit

def o1 (B:Bs):Bs:=F7 (1:Nat) B 0
def g1 (B:Bs):Int:=C9 (1:Nat) B 0
def m1 (B:Bs):Int:=F8 (1:Nat) B 0 0
def o2 (B:Bs):Bs:=F7 (2:Nat) (o1 B) (g1 B)
def g2 (B:Bs):Int:=C9 (2:Nat) (o1 B) (g1 B)
def m2 (B:Bs):Int:=F8 (2:Nat) B (m1 B) (g1 B)
def g3 (B:Bs):Int:=C9 (2:Nat) (o2 B) (g2 B)
end
--MsSa
section
open Go.RowKit

def lh (z:Int):Bool:=bb BinOp.neq (ak (Value.int IntKind.i64 (IntKind.wrap IntKind.i64 (BitVec.toNat (BitVec.ofInt (IntKind.bits IntKind.i64) z&&&BitVec.ofInt (IntKind.bits IntKind.i64) (16:Int)):Nat))) (Value.int IntKind.i64 (0:Int)))
end
--MsPt
section
open Go.RowKit

def iT (z:Int):List TV:= [.val (.int .i64 z)]
def iV (l:List Int):Bs:=l.map iT
end
--MsPq
section
open Go.RowKit

theorem eX (l:List Int):(iV l).length=l.length:=List.length_map _
theorem dA (f g:Nat→Option Nat):∀l:List Int,bf f g (iV l)=iV l
 | []=>rfl
 | a::l=>by
  have h:=dA f g l
  simp only [iV,List.map_cons,bf] at h ⊢
  rw [h];rfl
theorem Ad:∃inf:TypeInfo,Try.prog.info? 3=some inf∧inf.size=1∧inf.bytes+1≤1000∧inf.zero=some (.int .i64 0):=
 ⟨(Try.prog.info? 3).getD default,by kernel_rfl,by kernel_rfl,Nat.le_of_ble_eq_true (by kernel_rfl),by kernel_rfl⟩
theorem kN {x i:Operand} {l:List (Nat × TV)} {b:Bs} {tok:Tok} {k:IntKind} {z:Int} {e:List TV} (hx:aN ae l x= .vec 1 b tok) (hz:aN ae l i= .val (.int k z)) (h0:0≤z) (he:b[z.toNat]?=some e):
  aU Try.prog ae (.indexAddr 30 x i) l (.elt e):=by
 obtain ⟨inf,i1,i2,_,_⟩:=Ad
 exact eW (inf:=inf) Try.underlying30 i1 (by rw [i2];exact hx) hz h0 he
end
--MsTk
section
open Go.RowKit

abbrev wc:=93
def lY (a:Int):Bool:=bb BinOp.neq (ak (Value.int IntKind.u32 a) (Value.int IntKind.u32 (0:Int)))&&(bb BinOp.neq (ak (Value.int IntKind.u32 a) (Value.int IntKind.u32 (4294967295:Int)))&&(bb BinOp.neq (ak (Value.int IntKind.u32 (Int.fdiv a ((2:Int)^min (Int.toNat (24:Int)) (IntKind.bits IntKind.u32)))) (Value.int IntKind.u32 (127:Int)))&&bb BinOp.neq (ak (Value.int IntKind.u32 (Int.fdiv a ((2:Int)^min (Int.toNat (29:Int)) (IntKind.bits IntKind.u32)))) (Value.int IntKind.u32 (7:Int)))))
def wd:aO:=fun _ ys T K=>match ys with
 | [.val (.int .u32 a)]=>K (.val (.bool (lY a))) T
 | _=>False
def pL (fl t:Int) (v:Bs):TV:= .agg [.val (.int .i64 fl), .val (.int .i64 t), .vec 1 v .none]
theorem Dd (a:Int) (Q:TV→VT→Prop):an Try.prog ae bc aF 300 ay 0 wc [.val (.int .u32 a)] ⟨[], []⟩ Q=
 (bif bb BinOp.neq (ak (Value.int IntKind.u32 a) (Value.int IntKind.u32 (0:Int)))
 then (bif bb BinOp.neq (ak (Value.int IntKind.u32 a) (Value.int IntKind.u32 (4294967295:Int)))
 then (bif bb BinOp.neq (ak (Value.int IntKind.u32 (Int.fdiv a ((2:Int)^min (Int.toNat (24:Int)) (IntKind.bits IntKind.u32)))) (Value.int IntKind.u32 (127:Int)))
 then Q (.val (.bool (bb BinOp.neq (ak (Value.int IntKind.u32 (Int.fdiv a ((2:Int)^min (Int.toNat (29:Int)) (IntKind.bits IntKind.u32)))) (Value.int IntKind.u32 (7:Int)))))) ⟨[], []⟩
 else Q (.val (.bool false)) ⟨[], []⟩)
 else Q (.val (.bool false)) ⟨[], []⟩)
 else Q (.val (.bool false)) ⟨[], []⟩):=by kernel_rfl
end
--MsTl
section
open Go.RowKit

theorem BW (a:Int):VCx Try.prog ae 0 wc [.val (.int .u32 a)] ⟨[], []⟩ fun x T' =>x= .val (.bool (lY a))∧T' =⟨[], []⟩:=by
 refine ah ac aa ai ag (Dd a _) ?_
 unfold lY
 refine bq (fun c1=> ?_) (fun c1=> ?_)
 ·refine bq (fun c2=> ?_) (fun c2=> ?_)
  ·refine bq (fun c3=> ?_) (fun c3=> ?_)
   ·rw [c1,c2,c3,Bool.true_and,Bool.true_and,Bool.true_and];exact ⟨rfl,rfl⟩
   ·rw [c1,c2,c3,Bool.true_and,Bool.true_and,Bool.false_and];exact ⟨rfl,rfl⟩
  ·rw [c1,c2,Bool.true_and,Bool.false_and];exact ⟨rfl,rfl⟩
 ·rw [c1,Bool.false_and];exact ⟨rfl,rfl⟩
theorem BX {f:FuncId} (h:∀a,VCx Try.prog ae 0 f [.val (.int .u32 a)] ⟨[], []⟩ fun x T' =>x= .val (.bool (lY a))∧T' =⟨[], []⟩):∀ro ys T K,wd ro ys T K→VCx Try.prog ae ro f ys T K:=by
 intro ro ys T K hw
 unfold wd at hw
 split at hw
 ·exact VCx.liftPure am (h _) rfl (fun _ _=>rfl) hw
 ·exact hw.elim
end
--MsRb
section
open Go.RowKit

abbrev nO:=139
def Ft (W:List TV) (T:VT):VT:=(T.kill (T.objs.length-1)).newRow ((match T.objs[T.objs.length-1]? with
 | some (.row cs)=>cs
 | _=> [])++W)
theorem BY (fl t:Int) (Q:TV→VT→Prop):an Try.prog ae bc (aV [(999999, .dead,none)]) 300 ay 0 nO [pL fl t []] ⟨[], []⟩ Q=
 (bif bb BinOp.neq (ak (Value.int IntKind.i64 (IntKind.wrap IntKind.i64 (↑(BitVec.toNat (BitVec.ofInt (IntKind.bits IntKind.i64) fl&&&BitVec.ofInt (IntKind.bits IntKind.i64) (16:Int))):Int))) (Value.int IntKind.i64 (0:Int)))
 then Q (.row 1 7 0 4) ⟨[(.cells [(.val (.int .i64 (fl))),(.val (.int .i64 (t))),(.vec 1 [] .none)]), .gone,(.row [(.val (.int .u8 (IntKind.wrap IntKind.u8 (Int.fdiv (IntKind.wrap IntKind.u64 fl) ((2:Int)^min (Int.toNat (IntKind.wrap IntKind.i64 ((8:Int)*IntKind.wrap IntKind.i64 ((1:Int)-(1:Int))))) (IntKind.bits IntKind.u64))))))]), .gone,(.row [(.val (.int .u8 (IntKind.wrap IntKind.u8 (Int.fdiv (IntKind.wrap IntKind.u64 fl) ((2:Int)^min (Int.toNat (IntKind.wrap IntKind.i64 ((8:Int)*IntKind.wrap IntKind.i64 ((1:Int)-(1:Int))))) (IntKind.bits IntKind.u64)))))),(.val (.int .u8 (IntKind.wrap IntKind.u8 (Int.fdiv (IntKind.wrap IntKind.u64 t) ((2:Int)^min (Int.toNat (IntKind.wrap IntKind.i64 ((8:Int)*IntKind.wrap IntKind.i64 ((1:Int)-(1:Int))))) (IntKind.bits IntKind.u64))))))]), .gone, .gone,(.row [(.val (.int .u8 (IntKind.wrap IntKind.u8 (Int.fdiv (IntKind.wrap IntKind.u64 fl) ((2:Int)^min (Int.toNat (IntKind.wrap IntKind.i64 ((8:Int)*IntKind.wrap IntKind.i64 ((1:Int)-(1:Int))))) (IntKind.bits IntKind.u64)))))),(.val (.int .u8 (IntKind.wrap IntKind.u8 (Int.fdiv (IntKind.wrap IntKind.u64 t) ((2:Int)^min (Int.toNat (IntKind.wrap IntKind.i64 ((8:Int)*IntKind.wrap IntKind.i64 ((1:Int)-(1:Int))))) (IntKind.bits IntKind.u64)))))),(.val (.int .u8 0)),(.val (.int .u8 0))])], []⟩
 else Q (.row 1 6 0 3) ⟨[(.cells [(.val (.int .i64 (fl))),(.val (.int .i64 (t))),(.vec 1 [] .none)]), .gone,(.row [(.val (.int .u8 (IntKind.wrap IntKind.u8 (Int.fdiv (IntKind.wrap IntKind.u64 fl) ((2:Int)^min (Int.toNat (IntKind.wrap IntKind.i64 ((8:Int)*IntKind.wrap IntKind.i64 ((1:Int)-(1:Int))))) (IntKind.bits IntKind.u64))))))]), .gone,(.row [(.val (.int .u8 (IntKind.wrap IntKind.u8 (Int.fdiv (IntKind.wrap IntKind.u64 fl) ((2:Int)^min (Int.toNat (IntKind.wrap IntKind.i64 ((8:Int)*IntKind.wrap IntKind.i64 ((1:Int)-(1:Int))))) (IntKind.bits IntKind.u64)))))),(.val (.int .u8 (IntKind.wrap IntKind.u8 (Int.fdiv (IntKind.wrap IntKind.u64 t) ((2:Int)^min (Int.toNat (IntKind.wrap IntKind.i64 ((8:Int)*IntKind.wrap IntKind.i64 ((1:Int)-(1:Int))))) (IntKind.bits IntKind.u64))))))]), .gone,(.row [(.val (.int .u8 (IntKind.wrap IntKind.u8 (Int.fdiv (IntKind.wrap IntKind.u64 fl) ((2:Int)^min (Int.toNat (IntKind.wrap IntKind.i64 ((8:Int)*IntKind.wrap IntKind.i64 ((1:Int)-(1:Int))))) (IntKind.bits IntKind.u64)))))),(.val (.int .u8 (IntKind.wrap IntKind.u8 (Int.fdiv (IntKind.wrap IntKind.u64 t) ((2:Int)^min (Int.toNat (IntKind.wrap IntKind.i64 ((8:Int)*IntKind.wrap IntKind.i64 ((1:Int)-(1:Int))))) (IntKind.bits IntKind.u64)))))),(.val (.int .u8 0))])], []⟩):=by kernel_rfl
theorem De (fl t:Int) (v w:Bs) (W:List TV) (K N:Nat) (Q:TV→VT→Prop):an Try.prog ae bc (aV [(999999, .dead,none),(33, .vec 1 w .none,none),(34, .row 1 K 0 N,some (Ft W))]) 300 ay 0 nO [pL fl t v] ⟨[], []⟩ Q=
 (bif bb BinOp.neq (ak (Value.int IntKind.i64 (IntKind.wrap IntKind.i64 (↑(BitVec.toNat (BitVec.ofInt (IntKind.bits IntKind.i64) fl&&&BitVec.ofInt (IntKind.bits IntKind.i64) (16:Int))):Int))) (Value.int IntKind.i64 (0:Int)))
 then (aU Try.prog (fun _=> .none) (.slice 108 (.tmp 31) .none (.some (.tmp 32)) .none) [(31,(.vec 1 (v) .none)),(32,(.val (.int .i64 (if (65535:Int)<(↑(List.length v):Int) then (65535:Int) else (↑(List.length v):Int)))))] (.vec 1 (w) .none)∧
 (aW Try.prog (fun _=> .none) 0 ⟨[(.cells [(.val (.int .i64 (fl))),(.val (.int .i64 (t))),(.vec 1 (v) .none)]), .gone,(.row [(.val (.int .u8 (IntKind.wrap IntKind.u8 (Int.fdiv (IntKind.wrap IntKind.u64 fl) ((2:Int)^min (Int.toNat (IntKind.wrap IntKind.i64 ((8:Int)*IntKind.wrap IntKind.i64 ((1:Int)-(1:Int))))) (IntKind.bits IntKind.u64))))))]), .gone,(.row [(.val (.int .u8 (IntKind.wrap IntKind.u8 (Int.fdiv (IntKind.wrap IntKind.u64 fl) ((2:Int)^min (Int.toNat (IntKind.wrap IntKind.i64 ((8:Int)*IntKind.wrap IntKind.i64 ((1:Int)-(1:Int))))) (IntKind.bits IntKind.u64)))))),(.val (.int .u8 (IntKind.wrap IntKind.u8 (Int.fdiv (IntKind.wrap IntKind.u64 t) ((2:Int)^min (Int.toNat (IntKind.wrap IntKind.i64 ((8:Int)*IntKind.wrap IntKind.i64 ((1:Int)-(1:Int))))) (IntKind.bits IntKind.u64))))))]), .gone, .gone,(.row [(.val (.int .u8 (IntKind.wrap IntKind.u8 (Int.fdiv (IntKind.wrap IntKind.u64 fl) ((2:Int)^min (Int.toNat (IntKind.wrap IntKind.i64 ((8:Int)*IntKind.wrap IntKind.i64 ((1:Int)-(1:Int))))) (IntKind.bits IntKind.u64)))))),(.val (.int .u8 (IntKind.wrap IntKind.u8 (Int.fdiv (IntKind.wrap IntKind.u64 t) ((2:Int)^min (Int.toNat (IntKind.wrap IntKind.i64 ((8:Int)*IntKind.wrap IntKind.i64 ((1:Int)-(1:Int))))) (IntKind.bits IntKind.u64)))))),(.val (.int .u8 (IntKind.wrap IntKind.u8 (Int.fdiv (IntKind.wrap IntKind.u64 (if (65535:Int)<(↑(List.length v):Int) then (65535:Int) else (↑(List.length v):Int))) ((2:Int)^min (Int.toNat (IntKind.wrap IntKind.i64 ((8:Int)*IntKind.wrap IntKind.i64 ((2:Int)-(1:Int))))) (IntKind.bits IntKind.u64)))))),(.val (.int .u8 (IntKind.wrap IntKind.u8 (Int.fdiv (IntKind.wrap IntKind.u64 (if (65535:Int)<(↑(List.length v):Int) then (65535:Int) else (↑(List.length v):Int))) ((2:Int)^min (Int.toNat (IntKind.wrap IntKind.i64 ((8:Int)*IntKind.wrap IntKind.i64 (IntKind.wrap IntKind.i64 ((2:Int)-(1:Int))-(1:Int))))) (IntKind.bits IntKind.u64))))))])], []⟩ (.call ⟨(.builtin .append), #[(.tmp 29),(.tmp 33)], #[108,108]⟩) [(29,(.row 1 7 0 4)),(33,(.vec 1 (w) .none))] (.row 1 (K) 0 (N)) ⟨[(.cells [(.val (.int .i64 (fl))),(.val (.int .i64 (t))),(.vec 1 (v) .none)]), .gone,(.row [(.val (.int .u8 (IntKind.wrap IntKind.u8 (Int.fdiv (IntKind.wrap IntKind.u64 fl) ((2:Int)^min (Int.toNat (IntKind.wrap IntKind.i64 ((8:Int)*IntKind.wrap IntKind.i64 ((1:Int)-(1:Int))))) (IntKind.bits IntKind.u64))))))]), .gone,(.row [(.val (.int .u8 (IntKind.wrap IntKind.u8 (Int.fdiv (IntKind.wrap IntKind.u64 fl) ((2:Int)^min (Int.toNat (IntKind.wrap IntKind.i64 ((8:Int)*IntKind.wrap IntKind.i64 ((1:Int)-(1:Int))))) (IntKind.bits IntKind.u64)))))),(.val (.int .u8 (IntKind.wrap IntKind.u8 (Int.fdiv (IntKind.wrap IntKind.u64 t) ((2:Int)^min (Int.toNat (IntKind.wrap IntKind.i64 ((8:Int)*IntKind.wrap IntKind.i64 ((1:Int)-(1:Int))))) (IntKind.bits IntKind.u64))))))]), .gone, .gone, .gone,(.row ([(.val (.int .u8 (IntKind.wrap IntKind.u8 (Int.fdiv (IntKind.wrap IntKind.u64 fl) ((2:Int)^min (Int.toNat (IntKind.wrap IntKind.i64 ((8:Int)*IntKind.wrap IntKind.i64 ((1:Int)-(1:Int))))) (IntKind.bits IntKind.u64)))))),(.val (.int .u8 (IntKind.wrap IntKind.u8 (Int.fdiv (IntKind.wrap IntKind.u64 t) ((2:Int)^min (Int.toNat (IntKind.wrap IntKind.i64 ((8:Int)*IntKind.wrap IntKind.i64 ((1:Int)-(1:Int))))) (IntKind.bits IntKind.u64)))))),(.val (.int .u8 (IntKind.wrap IntKind.u8 (Int.fdiv (IntKind.wrap IntKind.u64 (if (65535:Int)<(↑(List.length v):Int) then (65535:Int) else (↑(List.length v):Int))) ((2:Int)^min (Int.toNat (IntKind.wrap IntKind.i64 ((8:Int)*IntKind.wrap IntKind.i64 ((2:Int)-(1:Int))))) (IntKind.bits IntKind.u64)))))),(.val (.int .u8 (IntKind.wrap IntKind.u8 (Int.fdiv (IntKind.wrap IntKind.u64 (if (65535:Int)<(↑(List.length v):Int) then (65535:Int) else (↑(List.length v):Int))) ((2:Int)^min (Int.toNat (IntKind.wrap IntKind.i64 ((8:Int)*IntKind.wrap IntKind.i64 (IntKind.wrap IntKind.i64 ((2:Int)-(1:Int))-(1:Int))))) (IntKind.bits IntKind.u64))))))]++W))], []⟩∧
 Q (.row 1 (K) 0 (N)) ⟨[(.cells [(.val (.int .i64 (fl))),(.val (.int .i64 (t))),(.vec 1 (v) .none)]), .gone,(.row [(.val (.int .u8 (IntKind.wrap IntKind.u8 (Int.fdiv (IntKind.wrap IntKind.u64 fl) ((2:Int)^min (Int.toNat (IntKind.wrap IntKind.i64 ((8:Int)*IntKind.wrap IntKind.i64 ((1:Int)-(1:Int))))) (IntKind.bits IntKind.u64))))))]), .gone,(.row [(.val (.int .u8 (IntKind.wrap IntKind.u8 (Int.fdiv (IntKind.wrap IntKind.u64 fl) ((2:Int)^min (Int.toNat (IntKind.wrap IntKind.i64 ((8:Int)*IntKind.wrap IntKind.i64 ((1:Int)-(1:Int))))) (IntKind.bits IntKind.u64)))))),(.val (.int .u8 (IntKind.wrap IntKind.u8 (Int.fdiv (IntKind.wrap IntKind.u64 t) ((2:Int)^min (Int.toNat (IntKind.wrap IntKind.i64 ((8:Int)*IntKind.wrap IntKind.i64 ((1:Int)-(1:Int))))) (IntKind.bits IntKind.u64))))))]), .gone, .gone, .gone,(.row ([(.val (.int .u8 (IntKind.wrap IntKind.u8 (Int.fdiv (IntKind.wrap IntKind.u64 fl) ((2:Int)^min (Int.toNat (IntKind.wrap IntKind.i64 ((8:Int)*IntKind.wrap IntKind.i64 ((1:Int)-(1:Int))))) (IntKind.bits IntKind.u64)))))),(.val (.int .u8 (IntKind.wrap IntKind.u8 (Int.fdiv (IntKind.wrap IntKind.u64 t) ((2:Int)^min (Int.toNat (IntKind.wrap IntKind.i64 ((8:Int)*IntKind.wrap IntKind.i64 ((1:Int)-(1:Int))))) (IntKind.bits IntKind.u64)))))),(.val (.int .u8 (IntKind.wrap IntKind.u8 (Int.fdiv (IntKind.wrap IntKind.u64 (if (65535:Int)<(↑(List.length v):Int) then (65535:Int) else (↑(List.length v):Int))) ((2:Int)^min (Int.toNat (IntKind.wrap IntKind.i64 ((8:Int)*IntKind.wrap IntKind.i64 ((2:Int)-(1:Int))))) (IntKind.bits IntKind.u64)))))),(.val (.int .u8 (IntKind.wrap IntKind.u8 (Int.fdiv (IntKind.wrap IntKind.u64 (if (65535:Int)<(↑(List.length v):Int) then (65535:Int) else (↑(List.length v):Int))) ((2:Int)^min (Int.toNat (IntKind.wrap IntKind.i64 ((8:Int)*IntKind.wrap IntKind.i64 (IntKind.wrap IntKind.i64 ((2:Int)-(1:Int))-(1:Int))))) (IntKind.bits IntKind.u64))))))]++W))], []⟩))
 else (aU Try.prog (fun _=> .none) (.slice 108 (.tmp 31) .none (.some (.tmp 32)) .none) [(31,(.vec 1 (v) .none)),(32,(.val (.int .i64 (if (255:Int)<(↑(List.length v):Int) then (255:Int) else (↑(List.length v):Int)))))] (.vec 1 (w) .none)∧
 (aW Try.prog (fun _=> .none) 0 ⟨[(.cells [(.val (.int .i64 (fl))),(.val (.int .i64 (t))),(.vec 1 (v) .none)]), .gone,(.row [(.val (.int .u8 (IntKind.wrap IntKind.u8 (Int.fdiv (IntKind.wrap IntKind.u64 fl) ((2:Int)^min (Int.toNat (IntKind.wrap IntKind.i64 ((8:Int)*IntKind.wrap IntKind.i64 ((1:Int)-(1:Int))))) (IntKind.bits IntKind.u64))))))]), .gone,(.row [(.val (.int .u8 (IntKind.wrap IntKind.u8 (Int.fdiv (IntKind.wrap IntKind.u64 fl) ((2:Int)^min (Int.toNat (IntKind.wrap IntKind.i64 ((8:Int)*IntKind.wrap IntKind.i64 ((1:Int)-(1:Int))))) (IntKind.bits IntKind.u64)))))),(.val (.int .u8 (IntKind.wrap IntKind.u8 (Int.fdiv (IntKind.wrap IntKind.u64 t) ((2:Int)^min (Int.toNat (IntKind.wrap IntKind.i64 ((8:Int)*IntKind.wrap IntKind.i64 ((1:Int)-(1:Int))))) (IntKind.bits IntKind.u64))))))]), .gone,(.row [(.val (.int .u8 (IntKind.wrap IntKind.u8 (Int.fdiv (IntKind.wrap IntKind.u64 fl) ((2:Int)^min (Int.toNat (IntKind.wrap IntKind.i64 ((8:Int)*IntKind.wrap IntKind.i64 ((1:Int)-(1:Int))))) (IntKind.bits IntKind.u64)))))),(.val (.int .u8 (IntKind.wrap IntKind.u8 (Int.fdiv (IntKind.wrap IntKind.u64 t) ((2:Int)^min (Int.toNat (IntKind.wrap IntKind.i64 ((8:Int)*IntKind.wrap IntKind.i64 ((1:Int)-(1:Int))))) (IntKind.bits IntKind.u64)))))),(.val (.int .u8 (IntKind.wrap IntKind.u8 (Int.fdiv (IntKind.wrap IntKind.u64 (if (255:Int)<(↑(List.length v):Int) then (255:Int) else (↑(List.length v):Int))) ((2:Int)^min (Int.toNat (IntKind.wrap IntKind.i64 ((8:Int)*IntKind.wrap IntKind.i64 ((1:Int)-(1:Int))))) (IntKind.bits IntKind.u64))))))])], []⟩ (.call ⟨(.builtin .append), #[(.tmp 29),(.tmp 33)], #[108,108]⟩) [(29,(.row 1 6 0 3)),(33,(.vec 1 (w) .none))] (.row 1 (K) 0 (N)) ⟨[(.cells [(.val (.int .i64 (fl))),(.val (.int .i64 (t))),(.vec 1 (v) .none)]), .gone,(.row [(.val (.int .u8 (IntKind.wrap IntKind.u8 (Int.fdiv (IntKind.wrap IntKind.u64 fl) ((2:Int)^min (Int.toNat (IntKind.wrap IntKind.i64 ((8:Int)*IntKind.wrap IntKind.i64 ((1:Int)-(1:Int))))) (IntKind.bits IntKind.u64))))))]), .gone,(.row [(.val (.int .u8 (IntKind.wrap IntKind.u8 (Int.fdiv (IntKind.wrap IntKind.u64 fl) ((2:Int)^min (Int.toNat (IntKind.wrap IntKind.i64 ((8:Int)*IntKind.wrap IntKind.i64 ((1:Int)-(1:Int))))) (IntKind.bits IntKind.u64)))))),(.val (.int .u8 (IntKind.wrap IntKind.u8 (Int.fdiv (IntKind.wrap IntKind.u64 t) ((2:Int)^min (Int.toNat (IntKind.wrap IntKind.i64 ((8:Int)*IntKind.wrap IntKind.i64 ((1:Int)-(1:Int))))) (IntKind.bits IntKind.u64))))))]), .gone, .gone,(.row ([(.val (.int .u8 (IntKind.wrap IntKind.u8 (Int.fdiv (IntKind.wrap IntKind.u64 fl) ((2:Int)^min (Int.toNat (IntKind.wrap IntKind.i64 ((8:Int)*IntKind.wrap IntKind.i64 ((1:Int)-(1:Int))))) (IntKind.bits IntKind.u64)))))),(.val (.int .u8 (IntKind.wrap IntKind.u8 (Int.fdiv (IntKind.wrap IntKind.u64 t) ((2:Int)^min (Int.toNat (IntKind.wrap IntKind.i64 ((8:Int)*IntKind.wrap IntKind.i64 ((1:Int)-(1:Int))))) (IntKind.bits IntKind.u64)))))),(.val (.int .u8 (IntKind.wrap IntKind.u8 (Int.fdiv (IntKind.wrap IntKind.u64 (if (255:Int)<(↑(List.length v):Int) then (255:Int) else (↑(List.length v):Int))) ((2:Int)^min (Int.toNat (IntKind.wrap IntKind.i64 ((8:Int)*IntKind.wrap IntKind.i64 ((1:Int)-(1:Int))))) (IntKind.bits IntKind.u64))))))]++W))], []⟩∧
 Q (.row 1 (K) 0 (N)) ⟨[(.cells [(.val (.int .i64 (fl))),(.val (.int .i64 (t))),(.vec 1 (v) .none)]), .gone,(.row [(.val (.int .u8 (IntKind.wrap IntKind.u8 (Int.fdiv (IntKind.wrap IntKind.u64 fl) ((2:Int)^min (Int.toNat (IntKind.wrap IntKind.i64 ((8:Int)*IntKind.wrap IntKind.i64 ((1:Int)-(1:Int))))) (IntKind.bits IntKind.u64))))))]), .gone,(.row [(.val (.int .u8 (IntKind.wrap IntKind.u8 (Int.fdiv (IntKind.wrap IntKind.u64 fl) ((2:Int)^min (Int.toNat (IntKind.wrap IntKind.i64 ((8:Int)*IntKind.wrap IntKind.i64 ((1:Int)-(1:Int))))) (IntKind.bits IntKind.u64)))))),(.val (.int .u8 (IntKind.wrap IntKind.u8 (Int.fdiv (IntKind.wrap IntKind.u64 t) ((2:Int)^min (Int.toNat (IntKind.wrap IntKind.i64 ((8:Int)*IntKind.wrap IntKind.i64 ((1:Int)-(1:Int))))) (IntKind.bits IntKind.u64))))))]), .gone, .gone,(.row ([(.val (.int .u8 (IntKind.wrap IntKind.u8 (Int.fdiv (IntKind.wrap IntKind.u64 fl) ((2:Int)^min (Int.toNat (IntKind.wrap IntKind.i64 ((8:Int)*IntKind.wrap IntKind.i64 ((1:Int)-(1:Int))))) (IntKind.bits IntKind.u64)))))),(.val (.int .u8 (IntKind.wrap IntKind.u8 (Int.fdiv (IntKind.wrap IntKind.u64 t) ((2:Int)^min (Int.toNat (IntKind.wrap IntKind.i64 ((8:Int)*IntKind.wrap IntKind.i64 ((1:Int)-(1:Int))))) (IntKind.bits IntKind.u64)))))),(.val (.int .u8 (IntKind.wrap IntKind.u8 (Int.fdiv (IntKind.wrap IntKind.u64 (if (255:Int)<(↑(List.length v):Int) then (255:Int) else (↑(List.length v):Int))) ((2:Int)^min (Int.toNat (IntKind.wrap IntKind.i64 ((8:Int)*IntKind.wrap IntKind.i64 ((1:Int)-(1:Int))))) (IntKind.bits IntKind.u64))))))]++W))], []⟩))):=by kernel_rfl
end
--MsRc
section
open Go.RowKit

def bz (z:Int) (m:Nat):Int:=IntKind.wrap .u8 (Int.fdiv (IntKind.wrap .u64 z) ((2:Int)^m))
def da (fl:Int) (v:Bs):Int:=bif lh fl then (if (65535:Int)<(v.length:Int) then 65535 else v.length) else (if (255:Int)<(v.length:Int) then 255 else v.length)
def sv (fl t n:Int):Bs:=bif lh fl then [bT (bz fl 0),bT (bz t 0),bT (bz n 8),bT (bz n 0)] else [bT (bz fl 0),bT (bz t 0),bT (bz n 0)]
def fw (fl t:Int) (v:Bs):Bs:=sv fl t (da fl v)++v.take (da fl v).toNat
theorem Fu (z:Int):0≤IntKind.wrap .u8 z∧IntKind.wrap .u8 z<256:=by
 simp only [IntKind.wrap,IntKind.bits,IntKind.signed];simp;omega
theorem kO (z:Int) (m:Nat):0≤bz z m∧bz z m<256:=Fu _
theorem xM (fl:Int) (v:Bs):0≤da fl v∧(da fl v).toNat≤v.length:=by
 unfold da
 cases lh fl<;>simp only [cond_true,cond_false]<;>split<;>omega
theorem oV {fl t:Int} {v:Bs} (hv:IsB v) (hl:v.length≤900000):IsB (fw fl t v):=by
  obtain ⟨⟨l,hl2,hz⟩,_⟩:=hv.take (da fl v).toNat
  have h1:(v.take (da fl v).toNat).length≤v.length:=by rw [List.length_take];omega
  unfold fw sv
  rw [hl2] at h1 ⊢
  cases lh fl
  · refine ⟨⟨bz fl 0::bz t 0::bz (da fl v) 0::l,rfl,fun z hm=> ?_⟩, ?_⟩
    · rcases List.mem_cons.1 hm with rfl | hm;exact kO _ _
      rcases List.mem_cons.1 hm with rfl | hm;exact kO _ _
      rcases List.mem_cons.1 hm with rfl | hm;exact kO _ _
      exact hz z hm
    · simp only [cond_false,List.length_append,List.length_cons,List.length_nil];omega
  · refine ⟨⟨bz fl 0::bz t 0::bz (da fl v) 8::bz (da fl v) 0::l,rfl,fun z hm=> ?_⟩, ?_⟩
    · rcases List.mem_cons.1 hm with rfl | hm;exact kO _ _
      rcases List.mem_cons.1 hm with rfl | hm;exact kO _ _
      rcases List.mem_cons.1 hm with rfl | hm;exact kO _ _
      rcases List.mem_cons.1 hm with rfl | hm;exact kO _ _
      exact hz z hm
    · simp only [cond_true,List.length_append,List.length_cons,List.length_nil];omega
theorem VCx.rowB {f:FuncId} {xs:List TV} {es:Bs} (hes:IsB es) (h:VCx Try.prog ae 0 f xs ⟨[], []⟩ fun x T' =>∃id off n,x= .row 1 id off n∧bI T' 1 (.row 1 id off n)=some es):VCx Try.prog ae 0 f xs ⟨[], []⟩ fun x T' =>x= .vec 1 es .none∧T' =⟨[], []⟩:=by
 refine VCx.keepQ 0 0 (Nat.le_refl _) (Nat.le_refl _) ((VCx.freeze (size:=1) (es:=es) (Q:=fun _=>True) (h.mono fun x T' ⟨id,off,n,h1,h2⟩=>⟨id,off,n,h1,h2,trivial⟩)).mono ?_)
 rintro x T' ⟨rfl,_⟩
 exact ⟨by simp only [TV.ren,hes.ren,Tok.ren],rfl⟩
theorem Ae (fl t:Int):VCx Try.prog ae 0 nO [pL fl t []] ⟨[], []⟩ fun x T' =>x= .vec 1 (fw fl t []) .none∧T' =⟨[], []⟩:=by
 refine VCx.rowB (oV .nil (by simp)) (ah ac aa ai ag (BY fl t _) ?_)
 refine bq (fun hx=>⟨7,0,4,rfl, ?_⟩) (fun hx=>⟨6,0,3,rfl, ?_⟩)
 ·have e:fw fl t []= [bT (bz fl 0),bT (bz t 0),bT (bz 0 8),bT (bz 0 0)]:=by
   unfold fw sv da;rw [show lh fl=true from hx];rfl
  rw [e]
  exact fN (es:= [bT (bz fl 0),bT (bz t 0),bT (bz 0 8),bT (bz 0 0)]) (by kernel_rfl) (by intro e he;simp only [List.mem_cons,List.not_mem_nil,or_false] at he;rcases he with rfl | rfl | rfl | rfl<;>rfl)
 ·have e:fw fl t []= [bT (bz fl 0),bT (bz t 0),bT (bz 0 0)]:=by
   unfold fw sv da;rw [show lh fl=false from hx];rfl
  rw [e]
  exact fN (es:= [bT (bz fl 0),bT (bz t 0),bT (bz 0 0)]) (by kernel_rfl) (by intro e he;simp only [List.mem_cons,List.not_mem_nil,or_false] at he;rcases he with rfl | rfl | rfl<;>rfl)
theorem sw {T T' :VT} {s x:Operand} {l:List (Nat × TV)} {q0:List TV} {qs:Bs} {tok:Tok} {id n:Nat} {cs:List TV} {y:TV} (hs:aN ae l s= .row 1 id 0 n) (ho:T.objs[id]?=some (.row cs)) (hn:n≤cs.length) (hx:aN ae l x= .vec 1 (q0::qs) tok) (hb:n+(q0::qs).length≤2000001)
  (hy:TV.row 1 T.objs.length 0 (n+(q0::qs).length)=y) (hT:(T.kill id).newRow (cs.take n++(q0::qs).flatten)=T'):aW Try.prog ae 0 T (.call ⟨.builtin .append, #[s,x], #[108,108]⟩) l y T' :=by
 obtain ⟨inf,i1,i2,i3,i4⟩:=iG
 have h:=tP (inf:=inf) (P:=Try.prog) (G:=ae) (ro:=0) (T:=T) (t:=108) (tx:=108) (s:=s) (x:=x) (l:=l) (q0:=q0) (qs:=qs) (tok:=tok) (id:=id) (n:=n) (cs:=cs) Try.underlying108 i1 i4 (by rw [i2];rfl) (by rfl) (by kernel_rfl) (by rw [i2];exact hs) ho (Nat.zero_le _) (by rw [i2];omega) (by rw [i2];exact hx) (by rw [i3];omega)
 rw [i2,Nat.mul_one,hy,hT] at h
 exact h
theorem BZ {fl:Int} {r:List TV} {v:Bs}:0<(da fl (r::v)).toNat:=by
 unfold da
 cases lh fl<;>simp only [cond_true,cond_false,List.length_cons]<;>split<;>omega
theorem B1 (fl t:Int) {r:List TV} {v:Bs} (hv:IsB (r::v)) (hl:(r::v).length≤900000):VCx Try.prog ae 0 nO [pL fl t (r::v)] ⟨[], []⟩ fun x T' =>x= .vec 1 (fw fl t (r::v)) .none∧T' =⟨[], []⟩:=by
  obtain ⟨h0,h1⟩:=xM fl (r::v)
  have hp:=BZ (fl:=fl) (r:=r) (v:=v)
  obtain ⟨qs,hqs⟩:∃qs,(r::v).take (da fl (r::v)).toNat=r::qs:=by
    obtain ⟨k,hk⟩:∃k,(da fl (r::v)).toNat=k+1:=⟨_,(Nat.succ_pred_eq_of_pos hp).symm⟩
    exact ⟨v.take k,by rw [hk];rfl⟩
  have hql:(r::qs).length≤900000:=by
    rw [←hqs,List.length_take];omega
  have hq1:∀e∈r::qs,e.length=1:=by
    rw [←hqs];exact (hv.take _).len1
  refine VCx.rowB (oV hv hl) (ah ac aa ai ag (De fl t (r::v) (r::qs) (r::qs).flatten (bif lh fl then 8 else 7) ((r::qs).length+(bif lh fl then 4 else 3)) _) ?_)
  refine bq (fun hx=> ?_) (fun hx=> ?_)
  · have hx2:lh fl=true:=hx
    have hM:da fl (r::v)=(if (65535:Int)<((r::v).length:Int) then 65535 else ((r::v).length:Int)):=by unfold da;rw [hx2];rfl
    rw [hx2,←hM]
    refine ⟨?_,sw (id:=7) (n:=4) (tok:= .none) rfl rfl (Nat.le_refl 4) rfl (by omega) (by rw [Nat.add_comm 4];rfl) rfl,8,0,(r::qs).length+4,rfl, ?_⟩
    · have h:=lX (x:= .tmp 31) (i:= .tmp 32) (l:= [(31, .vec 1 (r::v) .none),(32, .val (.int .i64 (da fl (r::v))))]) (b:=r::v) (tok:= .none) (k:= .i64) (z:=da fl (r::v)) rfl rfl h0 rfl h1
      rwa [hqs] at h
    · have e:fw fl t (r::v)= [bT (bz fl 0),bT (bz t 0),bT (bz (da fl (r::v)) 8),bT (bz (da fl (r::v)) 0)]++(r::qs):=by unfold fw sv;rw [hx2,hqs];rfl
      rw [e]
      exact fN (es:= [bT (bz fl 0),bT (bz t 0),bT (bz (da fl (r::v)) 8),bT (bz (da fl (r::v)) 0)]++(r::qs)) rfl (fun e he=>by
        rcases List.mem_append.1 he with h | h
        · simp only [List.mem_cons,List.not_mem_nil,or_false] at h;rcases h with rfl | rfl | rfl | rfl<;>rfl
        · exact hq1 e h)
  · have hx2:lh fl=false:=hx
    have hM:da fl (r::v)=(if (255:Int)<((r::v).length:Int) then 255 else ((r::v).length:Int)):=by unfold da;rw [hx2];rfl
    rw [hx2,←hM]
    refine ⟨?_,sw (id:=6) (n:=3) (tok:= .none) rfl rfl (Nat.le_refl 3) rfl (by omega) (by rw [Nat.add_comm 3];rfl) rfl,7,0,(r::qs).length+3,rfl, ?_⟩
    · have h:=lX (x:= .tmp 31) (i:= .tmp 32) (l:= [(31, .vec 1 (r::v) .none),(32, .val (.int .i64 (da fl (r::v))))]) (b:=r::v) (tok:= .none) (k:= .i64) (z:=da fl (r::v)) rfl rfl h0 rfl h1
      rwa [hqs] at h
    · have e:fw fl t (r::v)= [bT (bz fl 0),bT (bz t 0),bT (bz (da fl (r::v)) 0)]++(r::qs):=by unfold fw sv;rw [hx2,hqs];rfl
      rw [e]
      exact fN (es:= [bT (bz fl 0),bT (bz t 0),bT (bz (da fl (r::v)) 0)]++(r::qs)) rfl (fun e he=>by
        rcases List.mem_append.1 he with h | h
        · simp only [List.mem_cons,List.not_mem_nil,or_false] at h;rcases h with rfl | rfl | rfl<;>rfl
        · exact hq1 e h)
end
--MsRe
section
open Go.RowKit

def iI (fl t:Int) (v:Bs):Prop:=(0≤fl∧fl<256)∧(0≤t∧t<256)∧IsB v∧v.length≤900000
end
--MsUd
section
open Go.RowKit

structure F9 where
 w:Bs
 o:Int
 x:Bs
 h:Int
 m:Int
 hm:Bool
 n:Bs
def GI:F9:=⟨[],0, [],0,0,false, []⟩
end
--MsHc
section
open Go.RowKit

structure Ga where
 n:Int
 h:Int
 i:Int
 l:Bs
def GJ:Ga:=⟨0,0,0, []⟩
structure GB where
 k:Int
 op:Ga
 u:F9
 c:Int
 s:Int
 d:Bs
def m0:GB:=⟨0,GJ,GI,0,0, []⟩
end
--MsWf
section
open Go.RowKit

def GC (x:Bs):Prop:=∃l:List Int,x=iV l∧l.length≤9223372036854775807
end
--MbB
section
open Go.RowKit

abbrev qA:=125
abbrev iJ:=130
abbrev nP:=127
abbrev sx:=131
abbrev iK:=100
abbrev ni:=124
abbrev nj:=45
def dS (n k:Int):Prop:=(0≤n∧n≤1000000000000000)∧0≤k∧k≤8
def nk (b:Bs):Prop:=IsB b∧b≠ []
def aM (k n:Int):Bs:=ng k.toNat n.toNat
def Af (a n:Int):Prop:=nh n∧AR a n=a
def sy (a n:Int):Prop:=(0≤a∧a<4294967296)∧Af a n
def nl (n:Int):Nat:=((n+7)/8).toNat
def fT (a n:Int):Bs:=bT n::(aM 4 a).take (nl n)
def kQ:aO:=fun _ ys T K=>match ys with
 | [x, .val (.int .u64 n), .val (.int .i64 k)]=>match x with
  | .val (.slice none 0 0)=>dS n k∧K (.vec 1 (aM k n) .none) T
  | .vec 1 b _=>(dS n k∧nk b)∧K (.vec 1 (b++aM k n) .none) T
  | _=>ap 85 default ys
 | _=>ap 84 default ys
def gK (kd:IntKind) (k:Int):aO:=fun _ ys T K=>match ys with
 | [x, .val (.int q n)]=>(q=kd)∧match x with
  | .val (.slice none 0 0)=>dS n k∧K (.vec 1 (aM k n) .none) T
  | .vec 1 b _=>(dS n k∧nk b)∧K (.vec 1 (b++aM k n) .none) T
  | _=>ap 85 default ys
 | _=>ap 84 default ys
def AS:aO:=fun _ ys T K=>match ys with
 | [.agg [.val (.int .u32 a), .val (.int .i64 n)]]=>Af a n∧K (.agg [.val (.int .u32 a), .val (.int .i64 n)]) T
 | _=>ap 84 default ys
def AT:aO:=fun _ ys T K=>match ys with
 | [.agg [.val (.int .u32 a), .val (.int .i64 n)]]=>sy a n∧K (.vec 1 (fT a n) .none) T
 | _=>ap 84 default ys
def xN:List Nat:= [3,6,7,8]
def uu (B L:Bs) (j:Int):List TV:= [.vec 1 B (.tail 0 B.length), .vec 2 L .none, .val (.int .i64 L.length), .val (.int .i64 j)]
def Gb (B L:Bs) (c0:Code):Nat→Option (bP × Code):=cB [(0,dw 18 xN [(3,1)] (uu [] L 0) ⟨[], [(0,1,true)]⟩ fun K=>K .normal (aq 18 xN (uu B L L.length)) ⟨[], [(B.length,1,true)]⟩ [],c0)]
def uw:List Nat:= [0,1,4,7,8]
def qB (l:Bs) (r j:Int):List TV:= [.vec 1 l .none, .fn (.func 95) [] [], .val (.int .i64 r), .val (.int .i64 l.length), .val (.int .i64 j)]
def GK (l:Bs) (ok:Bool) (K:KX):Prop:=∀z:Nat,bif ok then K .normal (aq 19 uw (qB l 0 l.length)) ⟨[], []⟩ [] else K .ret (aq 19 uw (qB l z z)) ⟨[], []⟩ []
def Gc (l:Bs) (ok:Bool) (c0:Code):Nat→Option (bP × Code):=cB [(0,dw 19 uw [] (qB l 0 0) ⟨[], []⟩ (GK l ok),c0)]
def uy:List Nat:= [0,1,4,12,13]
def qC (s:Nat) (l m:Bs) (j:Int):List TV:= [.vec s l .none, .vec s m .none, .val (.bool false), .val (.int .i64 l.length), .val (.int .i64 j)]
def GL (s:Nat) (l m:Bs) (ok:Bool) (K:KX):Prop:=(@Eq Nat l.length m.length)∧∀z:Int,bif ok then K .normal (aq 26 uy (qC s l m l.length)) ⟨[], []⟩ [] else K .ret (aq 26 uy (qC s l m z)) ⟨[], []⟩ []
def Df (s:Nat) (l m:Bs) (ok:Bool) (c0:Code):Nat→Option (bP × Code):=cB [(0,dw 26 uy [] (qC s l m 0) ⟨[], []⟩ (GL s l m ok),c0)]
theorem Fv (b:Bs) (tok:Tok) (n:Int) (Q:TV→VT→Prop):an Try.prog ae (aw [(dz,kQ)]) aF 300 ay 0 qA [.vec 1 b tok, .val (.int .i64 n)] ⟨[], []⟩ Q=
 ((dS (IntKind.wrap IntKind.u64 n) 1∧
 nk (b))∧
 Q (.vec 1 (b++aM (1:Int) (IntKind.wrap IntKind.u64 n)) .none) ⟨[], []⟩):=by kernel_rfl
theorem Dg (n:Int) (Q:TV→VT→Prop):an Try.prog ae (aw [(dz,kQ)]) aF 300 ay 0 qA [.val (.slice none 0 0), .val (.int .i64 n)] ⟨[], []⟩ Q=
 (dS (IntKind.wrap IntKind.u64 n) 1∧
 Q (.vec 1 (aM (1:Int) (IntKind.wrap IntKind.u64 n)) .none) ⟨[], []⟩):=by kernel_rfl
theorem Dh (b:Bs) (tok:Tok) (n:Int) (Q:TV→VT→Prop):an Try.prog ae (aw [(dz,kQ)]) aF 300 ay 0 iJ [.vec 1 b tok, .val (.int .i64 n)] ⟨[], []⟩ Q=
 ((dS (IntKind.wrap IntKind.u64 n) 2∧
 nk (b))∧
 Q (.vec 1 (b++aM (2:Int) (IntKind.wrap IntKind.u64 n)) .none) ⟨[], []⟩):=by kernel_rfl
theorem B3 (n:Int) (Q:TV→VT→Prop):an Try.prog ae (aw [(dz,kQ)]) aF 300 ay 0 iJ [.val (.slice none 0 0), .val (.int .i64 n)] ⟨[], []⟩ Q=
 (dS (IntKind.wrap IntKind.u64 n) 2∧
 Q (.vec 1 (aM (2:Int) (IntKind.wrap IntKind.u64 n)) .none) ⟨[], []⟩):=by kernel_rfl
theorem Di (b:Bs) (tok:Tok) (n:Int) (Q:TV→VT→Prop):an Try.prog ae (aw [(dz,kQ)]) aF 300 ay 0 nP [.vec 1 b tok, .val (.int .u32 n)] ⟨[], []⟩ Q=
 ((dS (IntKind.wrap IntKind.u64 n) 4∧
 nk (b))∧
 Q (.vec 1 (b++aM (4:Int) (IntKind.wrap IntKind.u64 n)) .none) ⟨[], []⟩):=by kernel_rfl
theorem B4 (n:Int) (Q:TV→VT→Prop):an Try.prog ae (aw [(dz,kQ)]) aF 300 ay 0 nP [.val (.slice none 0 0), .val (.int .u32 n)] ⟨[], []⟩ Q=
 (dS (IntKind.wrap IntKind.u64 n) 4∧
 Q (.vec 1 (aM (4:Int) (IntKind.wrap IntKind.u64 n)) .none) ⟨[], []⟩):=by kernel_rfl
theorem Dj (a n:Int) (q c:Bs) (e:Nat) (Q:TV→VT→Prop):an Try.prog ae (aw [(nP,gK .u32 4),(nM,AS)]) (aV [(999998, .dead,none),(16, .vec 1 q .none,none),(17, .vec 1 c (.tail 0 e),some fun T=>{T with tails:= [(e,1,false)]})]) 300 ay 0 sx [.agg [.val (.int .u32 a), .val (.int .i64 n)]] ⟨[], []⟩ Q=
 (Af (a) (n)∧
 ((@Eq (IntKind) .u32 .u32)∧
 (dS (a) 4∧
 (((@Eq (Option TV) (.some (.val (.int .i64 (n)))) (.some (.val (.int .i64 (n)))))∧
 ((@Eq (Option TV) (.some (.val (.int .u32 (a)))) (.some (.val (.int .u32 (a)))))∧
 ((@Eq (Option TV) (.some (.val (.int .i64 (n)))) (.some (.val (.int .i64 (n)))))∧
 True)))∧
 (((@Eq (Option TV) (.some (.val (.int .i64 (n)))) (.some (.val (.int .i64 (n)))))∧
 ((@Eq (Option TV) (.some (.val (.int .u32 (a)))) (.some (.val (.int .u32 (a)))))∧
 ((@Eq (Option TV) (.some (.val (.int .i64 (n)))) (.some (.val (.int .i64 (n)))))∧
 True)))∧
 (aU Try.prog (fun _=> .none) (.slice 108 (.tmp 12) .none (.some (.tmp 15)) .none) [(12,(.vec 1 (aM (4:Int) a) .none)),(15,(.val (.int .i64 (IntKind.wrap IntKind.i64 (Int.tdiv (IntKind.wrap IntKind.i64 (IntKind.wrap IntKind.i64 (n+(8:Int))-(1:Int))) (8:Int))))))] (.vec 1 (q) .none)∧
 (aW Try.prog (fun _=> .none) 0 ⟨[(.cells [(.val (.int .u32 (a))),(.val (.int .i64 (n)))]),(.cells [(.val (.int .u32 (a))),(.val (.int .i64 (n)))])], []⟩ (.call ⟨(.builtin .append), #[(.tmp 9),(.tmp 16)], #[108,108]⟩) [(9,(.vec 1 [[(.val (.int .u8 (IntKind.wrap IntKind.u8 n)))]] .full)),(16,(.vec 1 (q) .none))] (.vec 1 (c) (.tail 0 (e))) ⟨[(.cells [(.val (.int .u32 (a))),(.val (.int .i64 (n)))]),(.cells [(.val (.int .u32 (a))),(.val (.int .i64 (n)))])], [((e),(1,false))]⟩∧
 Q (.vec 1 (c) (.tail 0 (e))) ⟨[(.cells [(.val (.int .u32 (a))),(.val (.int .i64 (n)))]),(.cells [(.val (.int .u32 (a))),(.val (.int .i64 (n)))])], [((e),(1,false))]⟩))))))):=by kernel_rfl
theorem Dk (B L:Bs) (Q:TV→VT→Prop):an Try.prog ae bc aF 300 (Gb B L (ar Try.prog iK 0)) 0 iK [.vec 2 L .none] ⟨[], []⟩ Q=
 ((ar Try.prog iK (0:Nat)=ar Try.prog iK (0:Nat))∧
 (((@Eq (Option Nat) .none .none)∧
 ((@Eq (Nat) 0 0)∧
 ((@Eq (List Nat) [] [])∧
 (((@Eq (Option TV) (.some (.val (.slice .none 0 0))) (.some (.val (.slice .none 0 0))))∧
 True)∧
 ((@Eq (VT) ⟨[], [(0,(1,true))]⟩ ⟨[], [(0,(1,true))]⟩)∧
 ((@Eq (Bool) true true)∧
 (@Eq (List TV) [(.vec 1 [] (.tail 0 0)),(.vec 2 (L) .none),(.val (.int .i64 ((↑(List.length L):Int)))),(.val (.int .i64 0))] [(.vec 1 [] (.tail 0 0)),(.vec 2 (L) .none),(.val (.int .i64 ((↑(List.length L):Int)))),(.val (.int .i64 0))])))))))∧
 Q (.vec 1 (B) (.tail 0 (List.length B))) ⟨[], [((List.length B),(1,true))]⟩)):=by kernel_rfl
theorem uz (B B2 L:Bs) (a n:Int) (j:Nat) (Q:Exit→List TV→VT→List Nat→Nat→Prop):vx Try.prog ae (aw [(sx,AT)]) (aV [(999999, .dead,none),(10, .elt [.val (.int .u32 a), .val (.int .i64 n)],none),(15, .vec 1 B2 (.tail 0 B2.length),some fun T=>{T with tails:= [(B2.length,1,true)]})]) 300 ay none 0 (cp Try.prog iK 0) (aq 18 xN (uu B L j)) ⟨[], [(B.length,1,true)]⟩ [] (cQ xN Q)=
 (bif decide ((↑j:Int)<(↑(List.length L):Int))
 then (aU Try.prog (fun _=> .none) (.indexAddr 42 (.tmp 6) (.tmp 8)) [(6,(.vec 2 (L) .none)),(8,(.val (.int .i64 ((↑j:Int)))))] (.elt [(.val (.int .u32 (a))),(.val (.int .i64 (n)))])∧
 (sy (a) (n)∧
 (aW Try.prog (fun _=> .none) 0 ⟨[(.cells [(.val (.int .u32 (a))),(.val (.int .i64 (n)))])], [((List.length B),(1,true))]⟩ (.call ⟨(.builtin .append), #[(.tmp 12),(.tmp 14)], #[108,108]⟩) [(12,(.vec 1 (B) (.tail 0 (List.length B)))),(14,(.vec 1 (fT a n) .none))] (.vec 1 (B2) (.tail 0 (List.length B2))) ⟨[(.cells [(.val (.int .u32 (a))),(.val (.int .i64 (n)))])], [((List.length B2),(1,true))]⟩∧
 Q .normal [(.vec 1 (B2) (.tail 0 (List.length B2))),(.vec 2 (L) .none),(.val (.int .i64 ((↑(List.length L):Int)))),(.val (.int .i64 (IntKind.wrap IntKind.i64 ((↑j:Int)+(1:Int)))))] ⟨[(.cells [(.val (.int .u32 (a))),(.val (.int .i64 (n)))])], [((List.length B2),(1,true))]⟩ [] 18)))
 else Q (.exit 0) [(.vec 1 (B) (.tail 0 (List.length B))),(.vec 2 (L) .none),(.val (.int .i64 ((↑(List.length L):Int)))),(.val (.int .i64 ((↑j:Int))))] ⟨[], [((List.length B),(1,true))]⟩ [] 18):=by kernel_rfl
theorem Fw (l:Bs) (ok:Bool) (Q:TV→VT→Prop):an Try.prog ae bc aF 300 (Gc l ok (ar Try.prog ni 0)) 0 ni [.vec 1 l .none, .fn (.func 95) [] []] ⟨[], []⟩ Q=
 ((ar Try.prog ni (0:Nat)=ar Try.prog ni (0:Nat))∧
 (((@Eq (Option Nat) .none .none)∧
 ((@Eq (Nat) 0 0)∧
 ((@Eq (List Nat) [] [])∧
 (True  ∧
 ((@Eq (VT) ⟨[], []⟩ ⟨[], []⟩)∧
 ((@Eq (Bool) true true)∧
 (@Eq (List TV) [(.vec 1 (l) .none),(.fn (.func 95) [] []),(.val (.int .i64 0)),(.val (.int .i64 ((↑(List.length l):Int)))),(.val (.int .i64 0))] [(.vec 1 (l) .none),(.fn (.func 95) [] []),(.val (.int .i64 0)),(.val (.int .i64 ((↑(List.length l):Int)))),(.val (.int .i64 0))])))))))∧
 (∀z:Nat,(bif ok
 then Q (.val (.int .i64 (-1))) ⟨[], []⟩
 else Q (.val (.int .i64 ((↑z:Int)))) ⟨[], []⟩)))):=by kernel_rfl
theorem xO (l:Bs) (z:Int) (j:Nat) (Q:Exit→List TV→VT→List Nat→Nat→Prop):vx Try.prog ae bc (aV [(14, .elt [.val (.int .i64 z)],none)]) 300 ay none 0 (cp Try.prog ni 0) (aq 19 uw (qB l 0 j)) ⟨[], []⟩ [] (cQ uw Q)=
 (bif decide ((↑j:Int)<(↑(List.length l):Int))
 then (aU Try.prog (fun _=> .none) (.indexAddr 30 (.tmp 12) (.tmp 13)) [(12,(.vec 1 (l) .none)),(13,(.val (.int .i64 ((↑j:Int)))))] (.elt [(.val (.int .i64 (z)))])∧
 (bif decide (z≥(1:Int))
 then (bif !decide (z≤(65535:Int))
 then Q .ret [(.vec 1 (l) .none),(.fn (.func 95) [] []),(.val (.int .i64 ((↑j:Int)))),(.val (.int .i64 ((↑(List.length l):Int)))),(.val (.int .i64 ((↑j:Int))))] ⟨[], []⟩ [] 19
 else Q .normal [(.vec 1 (l) .none),(.fn (.func 95) [] []),(.val (.int .i64 0)),(.val (.int .i64 ((↑(List.length l):Int)))),(.val (.int .i64 (IntKind.wrap IntKind.i64 ((↑j:Int)+(1:Int)))))] ⟨[], []⟩ [] 19)
 else Q .ret [(.vec 1 (l) .none),(.fn (.func 95) [] []),(.val (.int .i64 ((↑j:Int)))),(.val (.int .i64 ((↑(List.length l):Int)))),(.val (.int .i64 ((↑j:Int))))] ⟨[], []⟩ [] 19))
 else Q (.exit 0) [(.vec 1 (l) .none),(.fn (.func 95) [] []),(.val (.int .i64 0)),(.val (.int .i64 ((↑(List.length l):Int)))),(.val (.int .i64 ((↑j:Int))))] ⟨[], []⟩ [] 19):=by kernel_rfl
theorem AU (l m:Bs) (ok:Bool) (Q:TV→VT→Prop):an Try.prog ae bc aF 300 (Df 1 l m ok (ar Try.prog nj 0)) 0 nj [.vec 1 l .none, .vec 1 m .none] ⟨[], []⟩ Q=
 (bif bb BinOp.neq (ak (Value.int IntKind.i64 (↑(List.length l):Int)) (Value.int IntKind.i64 (↑(List.length m):Int)))
 then Q (.val (.bool false)) ⟨[], []⟩
 else ((ar Try.prog nj (0:Nat)=ar Try.prog nj (0:Nat))∧
 (((@Eq (Option Nat) .none .none)∧
 ((@Eq (Nat) 0 0)∧
 ((@Eq (List Nat) [] [])∧
 (True  ∧
 ((@Eq (VT) ⟨[], []⟩ ⟨[], []⟩)∧
 ((@Eq (Bool) true true)∧
 (@Eq (List TV) [(.vec 1 (l) .none),(.vec 1 (m) .none),(.val (.bool false)),(.val (.int .i64 ((↑(List.length l):Int)))),(.val (.int .i64 0))] [(.vec 1 (l) .none),(.vec 1 (m) .none),(.val (.bool false)),(.val (.int .i64 ((↑(List.length l):Int)))),(.val (.int .i64 0))])))))))∧
 ((@Eq (Nat) (List.length l) (List.length m))∧
 (∀z:Int,(bif ok
 then Q (.val (.bool true)) ⟨[], []⟩
 else Q (.val (.bool false)) ⟨[], []⟩)))))):=by kernel_rfl
theorem xP (l m:Bs) (x y:Int) (j:Nat) (Q:Exit→List TV→VT→List Nat→Nat→Prop):vx Try.prog ae bc (aV [(18, .elt [.val (.int .i64 x)],none),(22, .elt [.val (.int .i64 y)],none)]) 300 ay none 0 (cp Try.prog nj 0) (aq 26 uy (qC 1 l m j)) ⟨[], []⟩ [] (cQ uy Q)=
 (bif decide ((↑j:Int)<(↑(List.length l):Int))
 then (aU Try.prog (fun _=> .none) (.indexAddr 30 (.tmp 16) (.tmp 17)) [(16,(.vec 1 (l) .none)),(17,(.val (.int .i64 ((↑j:Int)))))] (.elt [(.val (.int .i64 (x)))])∧
 (aU Try.prog (fun _=> .none) (.indexAddr 30 (.tmp 20) (.tmp 21)) [(20,(.vec 1 (m) .none)),(21,(.val (.int .i64 ((↑j:Int)))))] (.elt [(.val (.int .i64 (y)))])∧
 (bif bb BinOp.neq (ak (Value.int IntKind.i64 x) (Value.int IntKind.i64 y))
 then Q .ret [(.vec 1 (l) .none),(.vec 1 (m) .none),(.val (.bool false)),(.val (.int .i64 ((↑(List.length l):Int)))),(.val (.int .i64 ((↑j:Int))))] ⟨[], []⟩ [] 26
 else Q .normal [(.vec 1 (l) .none),(.vec 1 (m) .none),(.val (.bool false)),(.val (.int .i64 ((↑(List.length l):Int)))),(.val (.int .i64 (IntKind.wrap IntKind.i64 ((↑j:Int)+(1:Int)))))] ⟨[], []⟩ [] 26)))
 else Q (.exit 0) [(.vec 1 (l) .none),(.vec 1 (m) .none),(.val (.bool false)),(.val (.int .i64 ((↑(List.length l):Int)))),(.val (.int .i64 ((↑j:Int))))] ⟨[], []⟩ [] 26):=by kernel_rfl
end
--MbC
section
open Go.RowKit

theorem cC {k:Int} (n:Int) (hk:k≤8):IsB (aM k n):=su (by omega)
theorem bJ {k:Int} (n:Int):(aM k n).length=k.toNat:=ur _ _
theorem B5:∀ro ys T K,kQ ro ys T K→VCx Try.prog ae ro dz ys T K:=by
 intro ro ys T K hw
 unfold kQ at hw
 split at hw
 ·rename_i x n k
  split at hw
  ·obtain ⟨⟨⟨h1,h1b⟩,h2,h3⟩,hk⟩:=hw
   obtain ⟨n,rfl⟩:=Int.eq_ofNat_of_zero_le h1
   obtain ⟨k,rfl⟩:=Int.eq_ofNat_of_zero_le h2
   have hb:IsB (ng k n):=su (by omega)
   exact VCx.liftPure am (zG (n:=n) (k:=k) (by omega)) (by simp only [av,TV.ren]) (fun f g=>by simp only [TV.ren,hb.ren,Tok.ren]) hk
  ·rename_i b tok
   obtain ⟨⟨⟨⟨h1,h1b⟩,h2,h3⟩,hb,hne⟩,hk⟩:=hw
   obtain ⟨n,rfl⟩:=Int.eq_ofNat_of_zero_le h1
   obtain ⟨k,rfl⟩:=Int.eq_ofNat_of_zero_le h2
   have hp:=cC (k:=((k:Nat):Int)) ((n:Nat):Int) h3
   refine VCx.liftPure am (BI (n:=n) (k:=k) hb hne (tok.ren (aP []) (aP [])) (by omega)) (by simp only [av,TV.ren,hb.ren]) (fun f g=> ?_) hk
   have e:bf f g (b++aM ((k:Nat):Int) ((n:Nat):Int))=b++aM ((k:Nat):Int) ((n:Nat):Int):=by rw [br,List.map_append,←br,←br,hb.ren,hp.ren]
   simp only [TV.ren,Tok.ren]
   exact congrArg (fun z=>TV.vec 1 z .none) e
  ·exact hw.elim
 ·exact hw.elim
theorem je {n:Int} (h0:0≤n) (h1:n≤1000000000000000):IntKind.u64.wrap n=n:=by
 simp only [IntKind.wrap,IntKind.bits,IntKind.signed];simp;omega
theorem mQ:aZ Try.prog ae (aw [(dz,kQ)]):=az fun p hp=>by obtain rfl:=List.mem_singleton.1 hp;exact B5
theorem pM {b c:Bs} (hb:IsB b) (hc:IsB c) (f g:Nat→Option Nat):bf f g (b++c)=b++c:=by
 rw [br,List.map_append,←br,←br,hb.ren,hc.ren]
theorem pN {f:FuncId} {kd:IntKind} {k:Int} (h0:∀{n:Int},0≤n→n≤1000000000000000→VCx Try.prog ae 0 f [.val (.slice none 0 0), .val (.int kd n)] ⟨[], []⟩ fun x T' =>x= .vec 1 (aM k n) .none∧T' =⟨[], []⟩)
  (h1:∀{n:Int} {b:Bs} (tok:Tok),0≤n→n≤1000000000000000→IsB b→b≠ []→VCx Try.prog ae 0 f [.vec 1 b tok, .val (.int kd n)] ⟨[], []⟩ fun x T' =>x= .vec 1 (b++aM k n) .none∧T' =⟨[], []⟩):
  ∀ro ys T K,gK kd k ro ys T K→VCx Try.prog ae ro f ys T K:=by
 intro ro ys T K hw
 unfold gK at hw
 split at hw
 ·rename_i x q n
  obtain ⟨rfl,hw⟩:=hw
  split at hw
  ·obtain ⟨⟨⟨g1,hn⟩,g2,g3⟩,hk⟩:=hw
   exact VCx.liftPure am (h0 g1 hn) (by simp only [av,TV.ren]) (fun f g=>by simp only [TV.ren,(cC n g3).ren,Tok.ren]) hk
  ·rename_i b tok
   obtain ⟨⟨⟨⟨g1,hn⟩,g2,g3⟩,hb,hne⟩,hk⟩:=hw
   exact VCx.liftPure am (h1 (tok.ren (aP []) (aP [])) g1 hn hb hne) (by simp only [av,TV.ren,hb.ren]) (fun f g=>by simp only [TV.ren,pM hb (cC n g3),Tok.ren]) hk
  ·exact hw.elim
 ·exact hw.elim
theorem AV:∀ro ys T K,gK .i64 1 ro ys T K→VCx Try.prog ae ro qA ys T K:=pN
 (fun g hn=>ah ac aa mQ ag (Dg _ _) (by rw [je g hn];exact ⟨⟨⟨g,hn⟩,by decide,by decide⟩,rfl,rfl⟩))
 (fun tok g hn hb hne=>ah ac aa mQ ag (Fv _ tok _ _) (by rw [je g hn];exact ⟨⟨⟨⟨g,hn⟩,by decide,by decide⟩,hb,hne⟩,rfl,rfl⟩))
theorem Dl:∀ro ys T K,gK .i64 2 ro ys T K→VCx Try.prog ae ro iJ ys T K:=pN
 (fun g hn=>ah ac aa mQ ag (B3 _ _) (by rw [je g hn];exact ⟨⟨⟨g,hn⟩,by decide,by decide⟩,rfl,rfl⟩))
 (fun tok g hn hb hne=>ah ac aa mQ ag (Dh _ tok _ _) (by rw [je g hn];exact ⟨⟨⟨⟨g,hn⟩,by decide,by decide⟩,hb,hne⟩,rfl,rfl⟩))
theorem xQ:∀ro ys T K,gK .u32 4 ro ys T K→VCx Try.prog ae ro nP ys T K:=pN
 (fun g hn=>ah ac aa mQ ag (B4 _ _) (by rw [je g hn];exact ⟨⟨⟨g,hn⟩,by decide,by decide⟩,rfl,rfl⟩))
 (fun tok g hn hb hne=>ah ac aa mQ ag (Di _ tok _ _) (by rw [je g hn];exact ⟨⟨⟨⟨g,hn⟩,by decide,by decide⟩,hb,hne⟩,rfl,rfl⟩))
theorem Fx:∀ro ys T K,AS ro ys T K→VCx Try.prog ae ro nM ys T K:=by
 intro ro ys T K hw
 unfold AS at hw
 split at hw
 ·obtain ⟨⟨h1,h2⟩,hk⟩:=hw
  refine VCx.liftPure am (BV _ h1) rfl (fun _ _=>rfl) ?_
  rw [h2];exact hk
 ·exact hw.elim
theorem Dm {n:Int} (h0:0≤n) (h1:n≤32):IntKind.u8.wrap n=n:=by
 simp only [IntKind.wrap,IntKind.bits,IntKind.signed];simp;omega
theorem Dn {n:Int} (h0:0≤n) (h1:n≤32):IntKind.i64.wrap (Int.tdiv (IntKind.i64.wrap (IntKind.i64.wrap (n+8)-1)) 8)=(n+7)/8:=by
 rw [cj (z:=n+8) (by omega) (by omega),cj (z:=n+8-1) (by omega) (by omega),show n+8-1=n+7 by omega,Int.tdiv_eq_ediv_of_nonneg (by omega),cj (by omega) (by omega)]
theorem sA {a n:Int} (h0:0≤n) (h1:n≤32):IsB (fT a n):=by
 obtain ⟨⟨l,hl,hz⟩,hlen⟩:=(cC (k:=4) a (by decide)).take (nl n)
 refine ⟨⟨n::l,by unfold fT;rw [hl];rfl,fun z h=> ?_⟩,by unfold fT;simp only [List.length_cons,List.length_take,bJ];omega⟩
 rcases List.mem_cons.1 h with rfl | h
 ·omega
 ·exact hz z h
theorem B6 {a n:Int} (h:sy a n):VCx Try.prog ae 0 sx [.agg [.val (.int .u32 a), .val (.int .i64 n)]] ⟨[], []⟩ fun x T' =>x= .vec 1 (fT a n) .none∧T' =⟨[], []⟩:=by
 obtain ⟨⟨a0,a1⟩,⟨n0,n1⟩,hc⟩:=h
 have hS:aZ Try.prog ae (aw [(nP,gK .u32 4),(nM,AS)]):=az fun p hp=>by
  rcases List.mem_cons.1 hp with rfl | hp;exact xQ
  obtain rfl:=List.mem_singleton.1 hp;exact Fx
 have hb:=sA (a:=a) n0 n1
 have hl:(fT a n).length=1+(min (nl n) 4):=by unfold fT;simp only [List.length_cons,List.length_take,bJ];omega
 refine VCx.toLe (Q:=fun T' =>T' =⟨[], []⟩) (VCx.keepQ 0 0 (Nat.le_refl _) (Nat.le_refl _) (ah ac aa hS ag (Dj a n ((aM 4 a).take (nl n)) (fT a n) (0+((aM 4 a).take (nl n)).length) _) ⟨⟨⟨n0,n1⟩,hc⟩,rfl,⟨⟨a0,by omega⟩,by decide,by decide⟩,⟨rfl,rfl,rfl,trivial⟩,⟨rfl,rfl,rfl,trivial⟩, ?_, ?_, ?_,rfl⟩))
 ·rw [Dn n0 n1]
  have h:=lX (x:= .tmp 12) (i:= .tmp 15) (l:= [(12, .vec 1 (aM 4 a) .none),(15, .val (.int .i64 ((n+7)/8)))]) (b:=aM 4 a) (tok:= .none) (k:= .i64) (z:=(n+7)/8) (n:=nl n) rfl rfl (by omega) rfl (by rw [bJ];unfold nl;omega)
  exact h
 ·rw [Dm n0 n1]
  have h:=mP (ro:=0) (T:=⟨[.cells [.val (.int .u32 a), .val (.int .i64 n)], .cells [.val (.int .u32 a), .val (.int .i64 n)]], []⟩) (T1:=⟨[.cells [.val (.int .u32 a), .val (.int .i64 n)], .cells [.val (.int .u32 a), .val (.int .i64 n)]], [(0,1,false)]⟩) (s:= .tmp 9) (x:= .tmp 16) (l:= [(9, .vec 1 [bT n] .full),(16, .vec 1 ((aM 4 a).take (nl n)) .none)]) (es:= [bT n]) (es2:=(aM 4 a).take (nl n)) (k:=0) (n:=0) (bn:=false) rfl rfl (by simp only [List.length_cons,List.length_nil,List.length_take,bJ];omega)
  exact h
 ·simp only [TV.ren,hb.ren]
  exact .vec 1 _ _
theorem Do:∀ro ys T K,AT ro ys T K→VCx Try.prog ae ro sx ys T K:=by
 intro ro ys T K hw
 unfold AT at hw
 split at hw
 ·obtain ⟨h,hk⟩:=hw
  exact VCx.liftPure am (B6 h) rfl (fun f g=>by simp only [TV.ren,(sA (a:=_) h.2.1.1 h.2.1.2).ren,Tok.ren]) hk
 ·exact hw.elim
def kR (l:List (Int × Int)):Prop:=(∀p∈l,sy p.1 p.2)∧l.length≤100000
def bX (l:List (Int × Int)):Bs:=l.flatMap fun p=>fT p.1 p.2
theorem uA {a n:Int}:(fT a n).length≤5:=by unfold fT;simp only [List.length_cons,List.length_take,bJ];omega
theorem gn:∀l:List (Int × Int),(bX l).length≤5*l.length
 | []=>Nat.le_refl _
 | p::l=>by
  have:=gn l
  have h2:=uA (a:=p.1) (n:=p.2)
  simp only [bX,List.flatMap_cons,List.length_append,List.length_cons] at this ⊢
  omega
theorem gp:∀{l:List (Int × Int)},kR l→IsB (bX l)
  | [],_=> .nil
  | p::l,h=>by
    have h1:=gp (l:=l) ⟨fun q hq=>h.1 q (List.mem_cons_of_mem _ hq),by have:=h.2;simp only [List.length_cons] at this;omega⟩
    obtain ⟨⟨m,hm,hz⟩,_⟩:=h1
    obtain ⟨⟨k,hk,hy⟩,_⟩:=sA (a:=p.1) (h.1 p List.mem_cons_self).2.1.1 (h.1 p List.mem_cons_self).2.1.2
    have hl:=gn (p::l)
    have h2:=h.2
    refine ⟨⟨k++m, ?_,fun z h=> ?_⟩,by omega⟩
    · show fT p.1 p.2++bX l=_
      rw [hk,hm,bV,bV,bV,List.map_append]
    · rcases List.mem_append.1 h with h | h
      · exact hy z h
      · exact hz z h
theorem xR {l:List (Int × Int)} {j:Nat} (h:j<l.length):bX (l.take (j+1))=bX (l.take j)++fT l[j].1 l[j].2:=by
 unfold bX
 rw [List.take_add_one,List.getElem?_eq_getElem h,List.flatMap_append]
 simp
theorem uB (objs:List VO) (A c:Bs) (h:A.length+c.length≤1000000) (s x:Nat) (hne:Nat.beq s x=false):aW Try.prog ae 0 ⟨objs, [(A.length,1,true)]⟩ (.call ⟨.builtin .append, #[.tmp s, .tmp x], #[108,108]⟩) [(s, .vec 1 A (.tail 0 A.length)),(x, .vec 1 c .none)] (.vec 1 (A++c) (.tail 0 (A++c).length)) ⟨objs, [((A++c).length,1,true)]⟩:=by
 have h:=mP (ro:=0) (T:=⟨objs, [(A.length,1,true)]⟩) (T1:=⟨objs, [(A.length,1,true)]⟩) (s:= .tmp s) (x:= .tmp x) (l:= [(s, .vec 1 A (.tail 0 A.length)),(x, .vec 1 c .none)]) (es:=A) (es2:=c) (k:=0) (n:=A.length) (bn:=true) (by simp [aN,cu,eR]) (by simp [aN,cu,hne,gu]) (by omega)
 rw [List.length_append]
 exact h
theorem sB {x i:Operand} {l:List (Nat × TV)} {es:Bs} {tok:Tok} {k:IntKind} {z:Int} {cs:List TV} (hx:aN ae l x= .vec 2 es tok) (hz:aN ae l i= .val (.int k z)) (h0:0≤z) (he:es[z.toNat]?=some cs):aU Try.prog ae (.indexAddr 42 x i) l (.elt cs):=by
 obtain ⟨inf,i1,i2,i3,i4⟩:=nN
 exact eW (inf:=inf) Try.underlying42 i1 (by rw [i2];exact hx) hz h0 he
theorem Ag {l:List (Int × Int)} (hl:kR l):gO Try.prog ae (Gb (bX l) (l.map cH) (ar Try.prog iK 0)):=bw fun p hp=>by
  obtain rfl:=List.mem_singleton.1 hp
  have hS:aZ Try.prog ae (aw [(sx,AT)]):=az fun p hp=>by obtain rfl:=List.mem_singleton.1 hp;exact Do
  refine bL fun K hK=> ?_
  have htk:∀j,kR (l.take j):=fun j=>⟨fun p hp=>hl.1 p (List.mem_of_mem_take hp),by have:=hl.2;rw [List.length_take];omega⟩
  refine di (f:=iK) (id:=0) (by kernel_rfl) 18 xN (fun j:Nat=>l.length-j) (fun j:Nat=>uu (bX (l.take j)) (l.map cH) j) (fun j=>⟨[], [((bX (l.take j)).length,1,true)]⟩) (fun j=>j≤l.length) 0 1 (fun _ _=>⟨Nat.le_refl _,Nat.le_refl _⟩)
    (fun e vs T=>e= .normal∧vs=uu (bX l) (l.map cH) (l.map cH).length∧T=⟨[], [((bX l).length,1,true)]⟩) (fun j hj=> ?_) 0 (Nat.zero_le _) K ?_
  · by_cases hlt:j<l.length
    · have hat:(l.map cH)[((j:Nat):Int).toNat]?=some (cH l[j]):=by rw [Int.toNat_natCast,List.getElem?_map,List.getElem?_eq_getElem hlt];rfl
      have hp:=hl.1 _ (List.getElem_mem hlt)
      have hb1:=gn (l.take j)
      have hb2:=uA (a:=l[j].1) (n:=l[j].2)
      have hll:=hl.2
      rw [List.length_take] at hb1
      have ht:=uB [.cells (cH l[j])] (bX (l.take j)) (fT l[j].1 l[j].2) (by omega) 12 14 rfl
      rw [←xR hlt] at ht
      refine bF ac aa hS ag (uz (bX (l.take j)) (bX (l.take (j+1))) (l.map cH) l[j].1 l[j].2 j _) ?_
      refine bp (decide_eq_true (by rw [List.length_map];omega)) ⟨sB rfl rfl (by omega) hat,hp,ht,rfl,rfl,j+1,hlt,by show l.length-(j+1)<l.length-j;omega, .inr ⟨rfl, ?_⟩⟩
      simp only [av,TV.ren,iH,(gp (htk (j+1))).ren,Tok.ren]
      rw [rc hlt (by omega)]
      rfl
    · have hj2:j=l.length:=by omega
      refine bF ac aa hS ag (uz (bX (l.take j)) [] (l.map cH) 0 0 j _) ?_
      subst hj2
      exact aX (decide_eq_false (by rw [List.length_map];omega)) ⟨rfl,rfl,rfl,by simp only [uu,List.length_map,List.take_length],by rw [List.take_length]⟩
  · rintro e vs T ⟨rfl,rfl,rfl⟩
    exact hK
theorem B7 {l:List (Int × Int)} (hl:kR l):VCx Try.prog ae 0 iK [.vec 2 (l.map cH) .none] ⟨[], []⟩ fun x T' =>x= .vec 1 (bX l) .none∧T' =⟨[], []⟩:=by
 refine VCx.toLe (Q:=fun T' =>T' =⟨[], []⟩) (VCx.keepQ 0 0 (Nat.le_refl _) (Nat.le_refl _) (ah ac aa ai (Ag hl) (Dk (bX l) (l.map cH) _) ⟨rfl,⟨rfl,rfl,rfl,⟨rfl,trivial⟩,rfl,rfl,rfl⟩, ?_,rfl⟩))
 simp only [TV.ren,(gp hl).ren]
 exact .vec 1 _ _
def dt (z:Int):Bool:=decide (z≥1)&&decide (z≤65535)
theorem B8 {l:List Int} (hn:l.length≤9223372036854775807):gO Try.prog ae (Gc (iV l) (l.all dt) (ar Try.prog ni 0)):=bw fun p hp=>by
  obtain rfl:=List.mem_singleton.1 hp
  refine bL fun K hK=> ?_
  refine di (f:=ni) (id:=0) (by kernel_rfl) 19 uw (fun j:Nat=>l.length-j) (fun j:Nat=>qB (iV l) 0 j) (fun _=>⟨[], []⟩) (fun j=>j≤l.length∧(l.take j).all dt=true) 0 0 (fun _ _=>⟨Nat.le_refl _,Nat.le_refl _⟩)
    (fun e vs T=>T=⟨[], []⟩∧((e= .normal∧l.all dt=true∧vs=qB (iV l) 0 (iV l).length)∨(e= .ret∧l.all dt=false∧∃z:Nat,vs=qB (iV l) z z))) (fun j hj=> ?_) 0 ⟨Nat.zero_le _,rfl⟩ K ?_
  · obtain ⟨hj,hall⟩:=hj
    by_cases hlt:j<l.length
    · have hat:(iV l)[((j:Nat):Int).toNat]?=some (iT l[j]):=by rw [Int.toNat_natCast,iV,List.getElem?_map,List.getElem?_eq_getElem hlt];rfl
      have bad:dt l[j]=false→l.all dt=false:=fun h=>by
        cases hc:l.all dt
        · rfl
        · have:=List.all_eq_true.1 hc _ (List.getElem_mem hlt);rw [h] at this;cases this
      refine bF ac aa ai ag (xO (iV l) l[j] j _) ?_
      refine bp (decide_eq_true (by rw [eX];omega)) ⟨kN rfl rfl (by omega) hat,bq (fun c1=>bq (fun c2=> ?_) (fun c2=> ?_)) (fun c1=> ?_)⟩
      · exact ⟨rfl,rfl,rfl, .inr ⟨rfl,bad (by unfold dt;rw [c1];cases h:decide (l[j]≤65535)<;>rw [h] at c2<;>first | rfl | cases c2),j,rfl⟩⟩
      · have c2:decide (l[j]≤65535)=true:=by cases h:decide (l[j]≤65535)<;>rw [h] at c2<;>first | rfl | cases c2
        refine ⟨rfl,rfl,j+1,⟨hlt, ?_⟩,by show l.length-(j+1)<l.length-j;omega, .inl ⟨rfl,by rw [xG hlt hn];rfl⟩⟩
        rw [List.take_add_one,List.getElem?_eq_getElem hlt,List.all_append,hall]
        simp only [Option.toList_some,List.all_cons,List.all_nil,Bool.and_true,Bool.true_and]
        unfold dt;rw [c1,c2];rfl
      · exact ⟨rfl,rfl,rfl, .inr ⟨rfl,bad (by unfold dt;rw [c1];rfl),j,rfl⟩⟩
    · have hj2:j=l.length:=by omega
      subst hj2
      rw [List.take_length] at hall
      refine bF ac aa ai ag (xO (iV l) 0 l.length _) ?_
      exact aX (decide_eq_false (by rw [eX];omega)) ⟨rfl,rfl,rfl, .inl ⟨rfl,hall,by simp only [qB,eX]⟩⟩
  · rintro e vs T ⟨rfl,⟨rfl,h1,rfl⟩ | ⟨rfl,h1,z,rfl⟩⟩
    · have:=hK 0;rw [h1] at this;exact this
    · have:=hK z;rw [h1] at this;exact this
end
--MbD
section
open Go.RowKit

def aD (l:List (Int × Int)):Bs:=l.map cH
theorem uC {l m:List Int} (hn:l.length≤9223372036854775807):gO Try.prog ae (Df 1 (iV l) (iV m) (decide (l=m)) (ar Try.prog nj 0)):=bw fun p hp=>by
  obtain rfl:=List.mem_singleton.1 hp
  have hL:∀l:List Int,(iV l).length=l.length:=fun l=>List.length_map _
  refine bL fun K hK=> ?_
  obtain ⟨hlm,hK⟩:=hK
  rw [hL,hL] at hlm
  refine di (f:=nj) (id:=0) (by kernel_rfl) 26 uy (fun j:Nat=>l.length-j) (fun j:Nat=>qC 1 (iV l) (iV m) j) (fun _=>⟨[], []⟩) (fun j=>j≤l.length∧l.take j=m.take j) 0 0 (fun _ _=>⟨Nat.le_refl _,Nat.le_refl _⟩)
    (fun e vs T=>T=⟨[], []⟩∧((e= .normal∧l=m∧vs=qC 1 (iV l) (iV m) (iV l).length)∨(e= .ret∧l≠m∧∃z:Int,vs=qC 1 (iV l) (iV m) z))) (fun j hj=> ?_) 0 ⟨Nat.zero_le _,rfl⟩ K ?_
  · obtain ⟨hj,hall⟩:=hj
    by_cases hlt:j<l.length
    · have hlt2:j<m.length:=by omega
      have hat:(iV l)[((j:Nat):Int).toNat]?=some (iT l[j]):=by rw [Int.toNat_natCast];show (l.map _)[j]?=_;rw [List.getElem?_map,List.getElem?_eq_getElem hlt];rfl
      have hat2:(iV m)[((j:Nat):Int).toNat]?=some (iT m[j]):=by rw [Int.toNat_natCast];show (m.map _)[j]?=_;rw [List.getElem?_map,List.getElem?_eq_getElem hlt2];rfl
      refine bF ac aa ai ag (xP (iV l) (iV m) l[j] m[j] j _) ?_
      refine bp (decide_eq_true (by rw [hL];omega)) ⟨kN rfl rfl (by omega) hat,kN rfl rfl (by omega) hat2, ?_⟩
      rw [Da]
      refine bq (fun c1=> ?_) (fun c1=> ?_)
      · refine ⟨rfl,rfl,rfl, .inr ⟨rfl,fun h=> ?_,j,rfl⟩⟩
        subst h
        simp at c1
      · refine ⟨rfl,rfl,j+1,⟨hlt, ?_⟩,by show l.length-(j+1)<l.length-j;omega, .inl ⟨rfl,by rw [xG hlt hn];rfl⟩⟩
        have he:l[j]=m[j]:=by simpa using c1
        rw [List.take_add_one,List.getElem?_eq_getElem hlt,List.take_add_one,List.getElem?_eq_getElem hlt2,hall,he]
    · have hj2:j=l.length:=by omega
      subst hj2
      rw [List.take_length,hlm,List.take_length] at hall
      refine bF ac aa ai ag (xP (iV l) (iV m) 0 0 l.length _) ?_
      exact aX (decide_eq_false (by rw [hL];omega)) ⟨rfl,rfl,rfl, .inl ⟨rfl,hall,by simp only [qC,hL]⟩⟩
  · rintro e vs T ⟨rfl,⟨rfl,h1,rfl⟩ | ⟨rfl,h1,z,rfl⟩⟩
    · have:=hK 0;rw [decide_eq_true h1] at this;exact this
    · have:=hK z;rw [decide_eq_false h1] at this;exact this
theorem Dp {l m:List Int} (hn:l.length≤9223372036854775807):VCx Try.prog ae 0 nj [.vec 1 (iV l) .none, .vec 1 (iV m) .none] ⟨[], []⟩ fun x T' =>x= .val (.bool (decide (l=m)))∧T' =⟨[], []⟩:=by
  have hL:∀l:List Int,(iV l).length=l.length:=fun l=>List.length_map _
  refine VCx.keepQ 0 0 (Nat.le_refl _) (Nat.le_refl _) ?_
  by_cases hlm:l.length=m.length
  · refine ah ac aa ai (uC hn) (AU (iV l) (iV m) _ _) ?_
    rw [Da,hL,hL]
    refine aX (by rw [decide_eq_true (by omega)];rfl) ⟨rfl,⟨rfl,rfl,rfl,trivial,rfl,rfl,by rw [←hL l]⟩,hlm,fun z=> ?_⟩
    by_cases h:l=m
    · rw [decide_eq_true h];exact ⟨rfl,rfl⟩
    · rw [decide_eq_false h];exact ⟨rfl,rfl⟩
  · have hne:l≠m:=fun h=>hlm (by rw [h])
    refine ah ac aa ai (uC hn) (AU (iV l) (iV m) _ _) ?_
    rw [Da,hL,hL]
    exact bp (by rw [decide_eq_false (by omega)];rfl) ⟨by rw [decide_eq_false hne];rfl,rfl⟩
end
--MbE
section
open Go.RowKit

def we (fl t:Int) (v:Bs):List TV:= [.val (.int .i64 fl), .val (.int .i64 t), .vec 1 v .none]
def uD (b:Bs):List Int:=b.map Gz
def lZ (b:Bs):Bool:= !(uD b).all dt
def uE (a b:Bs):Bool:=decide (uD a=uD b)
def jC (b:Bs):Prop:=GC b
def Dq (fl t:Int) (v:Bs):Prop:=iI fl t v
def Dr (fl t:Int) (v:Bs):Bs:=fw fl t v
def GM:List TV→Bs
 | [.val (.int _ fl), .val (.int _ t), .vec _ v _]=>fw fl t v
 | _=> []
def Ds (L:Bs):Bs:=L.flatMap GM
def sC (L v:Bs):Prop:=v=Ds L
def wg (L:Bs):Prop:=∃l:List (Int × Int × Bs),L=l.map (fun r=>we r.1 r.2.1 r.2.2)∧l.length≤10∧∀r∈l,iI r.1 r.2.1 r.2.2∧r.2.2.length≤1000
def Dt (b:Bs):Prop:=∃l:List Int,b=iV l∧l.length≤16∧l.all dt=true
def fA (l:List Int):Bs:=l.flatMap fun z=>aM 2 z
def gQ (b:Bs):Bs:=bif b.isEmpty then [] else aM 1 2++aM 1 b.length++fA (uD b)
structure AtV where
 o:Int
 p:List Int
 h:Int
 m:Int
 hm:Bool
 deriving DecidableEq
def AtV.cells (a:AtV):List TV:= [.val (.int .i64 a.o), .vec 1 (iV a.p) .none, .val (.int .u32 a.h), .val (.int .i64 a.m), .val (.bool a.hm)]
def dB (a:AtV):Bool:=decide (0≤a.o)&&(decide (a.o≤2)&&(lY a.h&&(decide (a.p.length≤16)&&(a.p.all dt&&(bif a.hm then decide (0≤a.m)&&decide (a.m≤4294967295) else decide (a.m=0))))))
def wh (l:List TV) (ok:Bool):Prop:=∃a:AtV,l=a.cells∧a.p.length≤9223372036854775807∧ok=dB a
abbrev xS:=94
abbrev l3:=126
abbrev l4:=128
abbrev oW:=65
abbrev xT:=97
abbrev nm:=17
def Du:aO:=fun _ ys T K=>match ys with
 | [.vec 1 l _, .fn (.func 95) [] []]=>jC l∧bif lZ l then ∀z:Nat,K (.val (.int .i64 (Int.ofNat z))) T else K (.val (.int .i64 (-1))) T
 | _=>ap 84 default ys
def AW:aO:=fun _ ys T K=>match ys with
 | [.vec 1 l _, .fn (.func 95) [] []]=>jC l∧K (.val (.bool (lZ l))) T
 | _=>ap 84 default ys
def wi:aO:=fun _ ys T K=>match ys with
 | [.agg [.val (.int .i64 fl), .val (.int .i64 t), .vec 1 v .none]]=>Dq fl t v∧K (.vec 1 (Dr fl t v) .none) T
 | _=>ap 84 default ys
def AX:aO:=fun _ ys T K=>match ys with
 | [.vec 3 l _]=>wg l∧∀v:Bs,sC l v→K (.vec 1 v .none) T
 | _=>ap 84 default ys
def AY:aO:=fun _ ys T K=>match ys with
 | [.vec 1 l _]=>Dt l∧K (.vec 1 (gQ l) .none) T
 | _=>ap 84 default ys
def qD (ok:Bool):aO:=fun _ ys T K=>match ys with
 | [.agg l]=>wh l ok∧K (.val (.bool ok)) T
 | _=>ap 84 default ys
def Dv:aO:=fun _ ys T K=>match ys with
 | [.vec 1 l _, .vec 1 m _]=>(jC l∧jC m)∧K (.val (.bool (uE l m))) T
 | _=>ap 84 default ys
def xU:List Nat:= [3,13,14,15]
def sD (B l:Bs) (j:Int):List TV:= [.vec 1 B .none, .vec 1 l .none, .val (.int .i64 l.length), .val (.int .i64 j)]
def Ge (B0 B l:Bs) (c0:Code):Nat→Option (bP × Code):=cB [(0,dw 24 xU [] (sD B0 l 0) ⟨[], []⟩ fun K=>K .normal (aq 24 xU (sD B l l.length)) ⟨[], []⟩ [],c0)]
def xV:List Nat:= [3,6,7,8]
def uF (B L:Bs) (j:Int):List TV:= [.vec 1 B (.tail 0 B.length), .vec 3 L .none, .val (.int .i64 L.length), .val (.int .i64 j)]
def Gf (B L:Bs) (c0:Code):Nat→Option (bP × Code):=cB [(0,AQ 18 xV [(3,1)] [6] (uF [] L 0) ⟨[], [(0,1,true)]⟩ fun K=>K .normal (aq 18 xV (uF B L L.length)) ⟨[], [(B.length,1,true)]⟩ [],c0)]
theorem Fy (l:Bs) (Q:TV→VT→Prop):an Try.prog ae (aw [(ni,Du)]) aF 300 ay 0 xS [.vec 1 l .none, .fn (.func 95) [] []] ⟨[], []⟩ Q=
 (jC (l)∧
 (bif lZ l
 then (∀z:Nat,Q (.val (.bool true)) ⟨[], []⟩)
 else Q (.val (.bool false)) ⟨[], []⟩)):=by kernel_rfl
theorem Fz (B0 B l:Bs) (Q:TV→VT→Prop):an Try.prog ae (aw [(qA,gK .i64 1),(iJ,gK .i64 2)]) aF 300 (Ge B0 B l (ar Try.prog l3 0)) 0 l3 [.vec 1 l .none] ⟨[], []⟩ Q=
 (bif bb BinOp.eql (ak (Value.int IntKind.i64 (↑(List.length l):Int)) (Value.int IntKind.i64 (0:Int)))
 then Q (.val (.slice .none 0 0)) ⟨[], []⟩
 else ((@Eq (IntKind) .i64 .i64)∧
 (dS 2 1∧
 ((@Eq (IntKind) .i64 .i64)∧
 ((dS ((↑(List.length l):Int)) 1∧
 nk (aM (1:Int) (2:Int)))∧
 ((ar Try.prog l3 (0:Nat)=ar Try.prog l3 (0:Nat))∧
 (((@Eq (Option Nat) .none .none)∧
 ((@Eq (Nat) 0 0)∧
 ((@Eq (List Nat) [] [])∧
 (True  ∧
 ((@Eq (VT) ⟨[], []⟩ ⟨[], []⟩)∧
 ((@Eq (Bool) true true)∧
 (@Eq (List TV) [(.vec 1 (aM (1:Int) (2:Int)++aM (1:Int) (↑(List.length l):Int)) .none),(.vec 1 (l) .none),(.val (.int .i64 ((↑(List.length l):Int)))),(.val (.int .i64 0))] [(.vec 1 (B0) .none),(.vec 1 (l) .none),(.val (.int .i64 ((↑(List.length l):Int)))),(.val (.int .i64 0))])))))))∧
 Q (.vec 1 (B) .none) ⟨[], []⟩))))))):=by kernel_rfl
theorem xW (B l:Bs) (z:Int) (j:Nat) (Q:Exit→List TV→VT→List Nat→Nat→Prop):vx Try.prog ae (aw [(qA,gK .i64 1),(iJ,gK .i64 2)]) (aV [(17, .elt [.val (.int .i64 z)],none)]) 300 ay none 0 (cp Try.prog l3 0) (aq 24 xU (sD B l j)) ⟨[], []⟩ [] (cQ xU Q)=
 (bif decide ((↑j:Int)<(↑(List.length l):Int))
 then (aU Try.prog (fun _=> .none) (.indexAddr 30 (.tmp 13) (.tmp 15)) [(13,(.vec 1 (l) .none)),(15,(.val (.int .i64 ((↑j:Int)))))] (.elt [(.val (.int .i64 (z)))])∧
 ((@Eq (IntKind) .i64 .i64)∧
 ((dS (z) 2∧
 nk (B))∧
 Q .normal [(.vec 1 (B++aM (2:Int) z) .none),(.vec 1 (l) .none),(.val (.int .i64 ((↑(List.length l):Int)))),(.val (.int .i64 (IntKind.wrap IntKind.i64 ((↑j:Int)+(1:Int)))))] ⟨[], []⟩ [] 24)))
 else Q (.exit 0) [(.vec 1 (B) .none),(.vec 1 (l) .none),(.val (.int .i64 ((↑(List.length l):Int)))),(.val (.int .i64 ((↑j:Int))))] ⟨[], []⟩ [] 24):=by kernel_rfl
theorem FA (B L:Bs) (Q:TV→VT→Prop):an Try.prog ae bc aF 300 (Gf B L (ar Try.prog l4 0)) 0 l4 [.vec 3 L .none] ⟨[], []⟩ Q=
 ((ar Try.prog l4 (0:Nat)=ar Try.prog l4 (0:Nat))∧
 (((@Eq (Option Nat) .none .none)∧
 ((@Eq (Nat) 0 0)∧
 ((@Eq (List Nat) [] [])∧
 (((@Eq (Option TV) (.some (.val (.slice .none 0 0))) (.some (.val (.slice .none 0 0))))∧
 True)∧
 ((@Eq (VT) ⟨[], [(0,(1,true))]⟩ ⟨[], [(0,(1,true))]⟩)∧
 ((@Eq (Bool) true true)∧
 (@Eq (List TV) [(.vec 1 [] (.tail 0 0)),(.vec 3 (L) .none),(.val (.int .i64 ((↑(List.length L):Int)))),(.val (.int .i64 0))] [(.vec 1 [] (.tail 0 0)),(.vec 3 (L) .none),(.val (.int .i64 ((↑(List.length L):Int)))),(.val (.int .i64 0))])))))))∧
 Q (.vec 1 (B) (.tail 0 (List.length B))) ⟨[], [((List.length B),(1,true))]⟩)):=by kernel_rfl
theorem xX (B B2 L v:Bs) (fl t:Int) (j:Nat) (Q:Exit→List TV→VT→List Nat→Nat→Prop):vx Try.prog ae (aw [(nO,wi)]) (aV [(999999, .dead,none),(10, .elt (we fl t v),none),(15, .vec 1 B2 (.tail 0 B2.length),some fun T=>{T with tails:= [(B2.length,1,true)]})]) 300 ay none 0 (cp Try.prog l4 0) (aq 18 xV (uF B L j)) ⟨[], [(B.length,1,true)]⟩ [] (cQ xV Q)=
 (bif decide ((↑j:Int)<(↑(List.length L):Int))
 then (aU Try.prog (fun _=> .none) (.indexAddr 165 (.tmp 6) (.tmp 8)) [(6,(.vec 3 (L) .none)),(8,(.val (.int .i64 ((↑j:Int)))))] (.elt [(.val (.int .i64 (fl))),(.val (.int .i64 (t))),(.vec 1 (v) .none)])∧
 (Dq (fl) (t) (v)∧
 (aW Try.prog (fun _=> .none) 0 ⟨[(.cells [(.val (.int .i64 (fl))),(.val (.int .i64 (t))),(.vec 1 (v) .none)])], [((List.length B),(1,true))]⟩ (.call ⟨(.builtin .append), #[(.tmp 12),(.tmp 14)], #[108,108]⟩) [(12,(.vec 1 (B) (.tail 0 (List.length B)))),(14,(.vec 1 (Dr fl t v) .none))] (.vec 1 (B2) (.tail 0 (List.length B2))) ⟨[(.cells [(.val (.int .i64 (fl))),(.val (.int .i64 (t))),(.vec 1 (v) .none)])], [((List.length B2),(1,true))]⟩∧
 Q .normal [(.vec 1 (B2) (.tail 0 (List.length B2))),(.vec 3 (L) .none),(.val (.int .i64 ((↑(List.length L):Int)))),(.val (.int .i64 (IntKind.wrap IntKind.i64 ((↑j:Int)+(1:Int)))))] ⟨[(.cells [(.val (.int .i64 (fl))),(.val (.int .i64 (t))),(.vec 1 (v) .none)])], [((List.length B2),(1,true))]⟩ [] 18)))
 else Q (.exit 0) [(.vec 1 (B) (.tail 0 (List.length B))),(.vec 3 (L) .none),(.val (.int .i64 ((↑(List.length L):Int)))),(.val (.int .i64 ((↑j:Int))))] ⟨[], [((List.length B),(1,true))]⟩ [] 18):=by kernel_rfl
theorem FB (o h m:Int) (hm:Bool) (p:Bs) (Q:TV→VT→Prop):an Try.prog ae (aw [(xS,AW),(wc,wd)]) (aV [(999998, .dead,none)]) 300 ay 0 oW [.agg [.val (.int .i64 o), .vec 1 p .none, .val (.int .u32 h), .val (.int .i64 m), .val (.bool hm)]] ⟨[], []⟩ Q=
 (bif decide (o<(0:Int))
 then Q (.val (.bool false)) ⟨[(.cells [(.val (.int .i64 (o))),(.vec 1 (p) .none),(.val (.int .u32 (h))),(.val (.int .i64 (m))),(.val (.bool (hm)))])], []⟩
 else (bif decide (o>(2:Int))
 then (bif decide (o>(2:Int))
 then Q (.val (.bool false)) ⟨[(.cells [(.val (.int .i64 (o))),(.vec 1 (p) .none),(.val (.int .u32 (h))),(.val (.int .i64 (m))),(.val (.bool (hm)))])], []⟩
 else (bif decide ((↑(List.length p):Int)>(16:Int))
 then (bif decide ((↑(List.length p):Int)>(16:Int))
 then Q (.val (.bool false)) ⟨[(.cells [(.val (.int .i64 (o))),(.vec 1 (p) .none),(.val (.int .u32 (h))),(.val (.int .i64 (m))),(.val (.bool (hm)))])], []⟩
 else (bif !hm
 then Q (.val (.bool (bb BinOp.eql (ak (Value.int IntKind.i64 m) (Value.int IntKind.i64 (0:Int)))))) ⟨[(.cells [(.val (.int .i64 (o))),(.vec 1 (p) .none),(.val (.int .u32 (h))),(.val (.int .i64 (m))),(.val (.bool (hm)))])], []⟩
 else (bif decide (m≥(0:Int))
 then Q (.val (.bool (decide (m≤(4294967295:Int))))) ⟨[(.cells [(.val (.int .i64 (o))),(.vec 1 (p) .none),(.val (.int .u32 (h))),(.val (.int .i64 (m))),(.val (.bool (hm)))])], []⟩
 else Q (.val (.bool false)) ⟨[(.cells [(.val (.int .i64 (o))),(.vec 1 (p) .none),(.val (.int .u32 (h))),(.val (.int .i64 (m))),(.val (.bool (hm)))])], []⟩)))
 else (jC (p)∧
 (bif lZ p
 then Q (.val (.bool false)) ⟨[(.cells [(.val (.int .i64 (o))),(.vec 1 (p) .none),(.val (.int .u32 (h))),(.val (.int .i64 (m))),(.val (.bool (hm)))])], []⟩
 else (bif !hm
 then Q (.val (.bool (bb BinOp.eql (ak (Value.int IntKind.i64 m) (Value.int IntKind.i64 (0:Int)))))) ⟨[(.cells [(.val (.int .i64 (o))),(.vec 1 (p) .none),(.val (.int .u32 (h))),(.val (.int .i64 (m))),(.val (.bool (hm)))])], []⟩
 else (bif decide (m≥(0:Int))
 then Q (.val (.bool (decide (m≤(4294967295:Int))))) ⟨[(.cells [(.val (.int .i64 (o))),(.vec 1 (p) .none),(.val (.int .u32 (h))),(.val (.int .i64 (m))),(.val (.bool (hm)))])], []⟩
 else Q (.val (.bool false)) ⟨[(.cells [(.val (.int .i64 (o))),(.vec 1 (p) .none),(.val (.int .u32 (h))),(.val (.int .i64 (m))),(.val (.bool (hm)))])], []⟩))))))
 else (bif !lY h
 then Q (.val (.bool false)) ⟨[(.cells [(.val (.int .i64 (o))),(.vec 1 (p) .none),(.val (.int .u32 (h))),(.val (.int .i64 (m))),(.val (.bool (hm)))])], []⟩
 else (bif decide ((↑(List.length p):Int)>(16:Int))
 then (bif decide ((↑(List.length p):Int)>(16:Int))
 then Q (.val (.bool false)) ⟨[(.cells [(.val (.int .i64 (o))),(.vec 1 (p) .none),(.val (.int .u32 (h))),(.val (.int .i64 (m))),(.val (.bool (hm)))])], []⟩
 else (bif !hm
 then Q (.val (.bool (bb BinOp.eql (ak (Value.int IntKind.i64 m) (Value.int IntKind.i64 (0:Int)))))) ⟨[(.cells [(.val (.int .i64 (o))),(.vec 1 (p) .none),(.val (.int .u32 (h))),(.val (.int .i64 (m))),(.val (.bool (hm)))])], []⟩
 else (bif decide (m≥(0:Int))
 then Q (.val (.bool (decide (m≤(4294967295:Int))))) ⟨[(.cells [(.val (.int .i64 (o))),(.vec 1 (p) .none),(.val (.int .u32 (h))),(.val (.int .i64 (m))),(.val (.bool (hm)))])], []⟩
 else Q (.val (.bool false)) ⟨[(.cells [(.val (.int .i64 (o))),(.vec 1 (p) .none),(.val (.int .u32 (h))),(.val (.int .i64 (m))),(.val (.bool (hm)))])], []⟩)))
 else (jC (p)∧
 (bif lZ p
 then Q (.val (.bool false)) ⟨[(.cells [(.val (.int .i64 (o))),(.vec 1 (p) .none),(.val (.int .u32 (h))),(.val (.int .i64 (m))),(.val (.bool (hm)))])], []⟩
 else (bif !hm
 then Q (.val (.bool (bb BinOp.eql (ak (Value.int IntKind.i64 m) (Value.int IntKind.i64 (0:Int)))))) ⟨[(.cells [(.val (.int .i64 (o))),(.vec 1 (p) .none),(.val (.int .u32 (h))),(.val (.int .i64 (m))),(.val (.bool (hm)))])], []⟩
 else (bif decide (m≥(0:Int))
 then Q (.val (.bool (decide (m≤(4294967295:Int))))) ⟨[(.cells [(.val (.int .i64 (o))),(.vec 1 (p) .none),(.val (.int .u32 (h))),(.val (.int .i64 (m))),(.val (.bool (hm)))])], []⟩
 else Q (.val (.bool false)) ⟨[(.cells [(.val (.int .i64 (o))),(.vec 1 (p) .none),(.val (.int .u32 (h))),(.val (.int .i64 (m))),(.val (.bool (hm)))])], []⟩)))))))):=by kernel_rfl
theorem FC (o h m:Int) (hm ok:Bool) (p L4:Bs) (Q:TV→VT→Prop):an Try.prog ae (aw [(oW,qD ok),(qA,gK .i64 1),(nP,gK .u32 4),(l3,AY),(l4,AX)]) (aV [(999998, .dead,none),(29, .vec 3 L4 (.tail 0 1),some fun T=>{T with tails:= [(1,3,false)]})]) 300 ay 0 xT [.agg [.val (.int .i64 o), .vec 1 p .none, .val (.int .u32 h), .val (.int .i64 m), .val (.bool hm)]] ⟨[], []⟩ Q=
 (wh [(.val (.int .i64 (o))),(.vec 1 (p) .none),(.val (.int .u32 (h))),(.val (.int .i64 (m))),(.val (.bool (hm)))] (ok)∧
 (bif !ok
 then Q (.val (.slice .none 0 0)) ⟨[(.cells [(.val (.int .i64 (o))),(.vec 1 (p) .none),(.val (.int .u32 (h))),(.val (.int .i64 (m))),(.val (.bool (hm)))])], []⟩
 else ((@Eq (IntKind) .i64 .i64)∧
 (dS (o) 1∧
 (((@Eq (Option TV) (.some (.val (.int .u32 (h)))) (.some (.val (.int .u32 (h)))))∧
 ((@Eq (Option TV) (.some (.vec 1 (p) .none)) (.some (.vec 1 (p) .none)))∧
 ((@Eq (Option TV) (.some (.val (.int .i64 (o)))) (.some (.val (.int .i64 (o)))))∧
 True)))∧
 (Dt (p)∧
 (((@Eq (Option TV) (.some (.val (.int .u32 (h)))) (.some (.val (.int .u32 (h)))))∧
 ((@Eq (Option TV) (.some (.vec 1 (p) .none)) (.some (.vec 1 (p) .none)))∧
 ((@Eq (Option TV) (.some (.val (.int .i64 (o)))) (.some (.val (.int .i64 (o)))))∧
 True)))∧
 ((@Eq (IntKind) .u32 .u32)∧
 (dS (h) 4∧
 (bif hm
 then ((@Eq (IntKind) .u32 .u32)∧
 (dS (IntKind.wrap IntKind.u32 m) 4∧
 (aW Try.prog (fun _=> .none) 0 ⟨[(.cells [(.val (.int .i64 (o))),(.vec 1 (p) .none),(.val (.int .u32 (h))),(.val (.int .i64 (m))),(.val (.bool (hm)))])], []⟩ (.call ⟨(.builtin .append), #[(.tmp 22),(.tmp 28)], #[165,165]⟩) [(22,(.vec 3 [[(.val (.int .i64 64)),(.val (.int .i64 1)),(.vec 1 (aM (1:Int) o) .none)], [(.val (.int .i64 64)),(.val (.int .i64 2)),(.vec 1 (gQ p) .none)], [(.val (.int .i64 64)),(.val (.int .i64 3)),(.vec 1 (aM (4:Int) h) .none)]] .full)),(28,(.vec 3 [[(.val (.int .i64 128)),(.val (.int .i64 4)),(.vec 1 (aM (4:Int) (IntKind.wrap IntKind.u32 m)) .none)]] .full))] (.vec 3 (L4) (.tail 0 1)) ⟨[(.cells [(.val (.int .i64 (o))),(.vec 1 (p) .none),(.val (.int .u32 (h))),(.val (.int .i64 (m))),(.val (.bool (hm)))])], [(1,(3,false))]⟩∧
 (wg (L4)∧
 (∀v:Bs,(sC (L4) (v)→Q (.vec 1 (v) .none) ⟨[(.cells [(.val (.int .i64 (o))),(.vec 1 (p) .none),(.val (.int .u32 (h))),(.val (.int .i64 (m))),(.val (.bool (hm)))])], [(1,(3,false))]⟩))))))
 else (wg [[(.val (.int .i64 64)),(.val (.int .i64 1)),(.vec 1 (aM (1:Int) o) .none)], [(.val (.int .i64 64)),(.val (.int .i64 2)),(.vec 1 (gQ p) .none)], [(.val (.int .i64 64)),(.val (.int .i64 3)),(.vec 1 (aM (4:Int) h) .none)]]∧
 (∀v:Bs,(sC [[(.val (.int .i64 64)),(.val (.int .i64 1)),(.vec 1 (aM (1:Int) o) .none)], [(.val (.int .i64 64)),(.val (.int .i64 2)),(.vec 1 (gQ p) .none)], [(.val (.int .i64 64)),(.val (.int .i64 3)),(.vec 1 (aM (4:Int) h) .none)]] (v)→Q (.vec 1 (v) .none) ⟨[(.cells [(.val (.int .i64 (o))),(.vec 1 (p) .none),(.val (.int .u32 (h))),(.val (.int .i64 (m))),(.val (.bool (hm)))])], []⟩))))))))))))):=by kernel_rfl
theorem FD (o h m o2 h2 m2:Int) (hm hm2:Bool) (p p2:Bs) (Q:TV→VT→Prop):an Try.prog ae (aw [(nj,Dv)]) (aV [(999998, .dead,none)]) 300 ay 0 nm [.agg [.val (.int .i64 o), .vec 1 p .none, .val (.int .u32 h), .val (.int .i64 m), .val (.bool hm)], .agg [.val (.int .i64 o2), .vec 1 p2 .none, .val (.int .u32 h2), .val (.int .i64 m2), .val (.bool hm2)]] ⟨[], []⟩ Q=
 (bif bb BinOp.eql (ak (Value.int IntKind.i64 o) (Value.int IntKind.i64 o2))
 then (bif bb BinOp.eql (ak (Value.int IntKind.u32 h) (Value.int IntKind.u32 h2))
 then (bif bb BinOp.eql (ak (Value.int IntKind.i64 m) (Value.int IntKind.i64 m2))
 then (bif bb BinOp.eql (ak (Value.bool hm) (Value.bool hm2))
 then ((jC (p)∧
 jC (p2))∧
 Q (.val (.bool (uE p p2))) ⟨[(.cells [(.val (.int .i64 (o))),(.vec 1 (p) .none),(.val (.int .u32 (h))),(.val (.int .i64 (m))),(.val (.bool (hm)))]),(.cells [(.val (.int .i64 (o2))),(.vec 1 (p2) .none),(.val (.int .u32 (h2))),(.val (.int .i64 (m2))),(.val (.bool (hm2)))])], []⟩)
 else Q (.val (.bool false)) ⟨[(.cells [(.val (.int .i64 (o))),(.vec 1 (p) .none),(.val (.int .u32 (h))),(.val (.int .i64 (m))),(.val (.bool (hm)))]),(.cells [(.val (.int .i64 (o2))),(.vec 1 (p2) .none),(.val (.int .u32 (h2))),(.val (.int .i64 (m2))),(.val (.bool (hm2)))])], []⟩)
 else Q (.val (.bool false)) ⟨[(.cells [(.val (.int .i64 (o))),(.vec 1 (p) .none),(.val (.int .u32 (h))),(.val (.int .i64 (m))),(.val (.bool (hm)))]),(.cells [(.val (.int .i64 (o2))),(.vec 1 (p2) .none),(.val (.int .u32 (h2))),(.val (.int .i64 (m2))),(.val (.bool (hm2)))])], []⟩)
 else Q (.val (.bool false)) ⟨[(.cells [(.val (.int .i64 (o))),(.vec 1 (p) .none),(.val (.int .u32 (h))),(.val (.int .i64 (m))),(.val (.bool (hm)))]),(.cells [(.val (.int .i64 (o2))),(.vec 1 (p2) .none),(.val (.int .u32 (h2))),(.val (.int .i64 (m2))),(.val (.bool (hm2)))])], []⟩)
 else Q (.val (.bool false)) ⟨[(.cells [(.val (.int .i64 (o))),(.vec 1 (p) .none),(.val (.int .u32 (h))),(.val (.int .i64 (m))),(.val (.bool (hm)))]),(.cells [(.val (.int .i64 (o2))),(.vec 1 (p2) .none),(.val (.int .u32 (h2))),(.val (.int .i64 (m2))),(.val (.bool (hm2)))])], []⟩):=by kernel_rfl
end
--MbF
section
open Go.RowKit

theorem gL (l:List Int):uD (iV l)=l:=by
 unfold uD iV
 rw [List.map_map]
 exact (List.map_congr_left fun z _=>rfl).trans (List.map_id _)
theorem xY {l:List Int} (hn:l.length≤9223372036854775807) (K:TV→VT→Prop) (hk:bif lZ (iV l) then ∀z:Nat,K (.val (.int .i64 (Int.ofNat z))) ⟨[], []⟩ else K (.val (.int .i64 (-1))) ⟨[], []⟩):VCx Try.prog ae 0 ni [.vec 1 (iV l) .none, .fn (.func 95) [] []] ⟨[], []⟩ K:=by
 refine ah ac aa ai (B8 hn) (Fw (iV l) (l.all dt) _) ⟨rfl,⟨rfl,rfl,rfl,trivial,rfl,rfl,rfl⟩,fun z=> ?_⟩
 unfold lZ at hk
 rw [gL] at hk
 cases h:l.all dt<;>rw [h] at hk
 ·exact hk z
 ·exact hk
theorem Dw {l:List Int} (hn:l.length≤9223372036854775807):VCx Try.prog ae 0 xS [.vec 1 (iV l) .none, .fn (.func 95) [] []] ⟨[], []⟩ fun x T' =>x= .val (.bool (lZ (iV l)))∧T' =⟨[], []⟩:=by
 have hS:aZ Try.prog ae (aw [(ni,Du)]):=az fun p hp=>by
  obtain rfl:=List.mem_singleton.1 hp
  intro ro ys T K hw
  simp only at hw
  unfold Du at hw
  split at hw
  ·rename_i b tok
   obtain ⟨⟨l,rfl,hn⟩,hk⟩:=hw
   cases h:lZ (iV l) with
   | false=>
    rw [h,cond_false] at hk
    exact VCx.loosePure am (y:= .val (.int .i64 (-1))) (xY hn _ (by rw [h];exact ⟨rfl,rfl⟩)) (by simp [b9]) (by simp [av,TV.ren,dA,Tok.ren]) (fun _ _=>rfl) hk
   | true=>
    rw [h,cond_true] at hk
    exact VCx.looseAny am (Y:=fun y=>∃z:Nat,y= .val (.int .i64 (Int.ofNat z))) (xY hn _ (by rw [h,cond_true];exact fun z=>⟨⟨z,rfl⟩,rfl⟩)) (by simp [b9]) (by simp [av,TV.ren,dA,Tok.ren]) (fun y ⟨z,hz⟩ _ _=>by rw [hz];rfl) (fun y ⟨z,hz⟩=>by rw [hz];exact hk z)
  ·exact hw.elim
 refine VCx.keepQ 0 0 (Nat.le_refl _) (Nat.le_refl _) (ah ac aa hS ag (Fy (iV l) _) ⟨⟨l,rfl,hn⟩,bq (fun h _=>⟨by rw [h];rfl,rfl⟩) (fun h=>⟨by rw [h];rfl,rfl⟩)⟩)
theorem Dx:∀ro ys T K,AW ro ys T K→VCx Try.prog ae ro xS ys T K:=by
 intro ro ys T K hw
 unfold AW at hw
 split at hw
 ·obtain ⟨⟨l,rfl,hn⟩,hk⟩:=hw
  exact VCx.loosePure am (Dw hn) (by simp [b9]) (by simp [av,TV.ren,dA,Tok.ren]) (fun _ _=>rfl) hk
 ·exact hw.elim
theorem Ah {l:List Int} {j:Nat} (h:j<l.length):fA (l.take (j+1))=fA (l.take j)++aM 2 l[j]:=by
 unfold fA
 rw [List.take_add_one,List.getElem?_eq_getElem h,List.flatMap_append]
 simp
theorem j4:∀l:List Int,(fA l).length=2*l.length
 | []=>rfl
 | z::l=>by
  have:=j4 l
  simp only [fA,List.flatMap_cons,List.length_append,List.length_cons,bJ] at this ⊢
  omega
theorem j5 {a b:Bs} (h:IsB a) (k:IsB b) (hl:a.length+b.length≤1000000):IsB (a++b):=by
 obtain ⟨⟨l,rfl,hz⟩,_⟩:=h
 obtain ⟨⟨m,rfl,hy⟩,_⟩:=k
 refine ⟨⟨l++m,by simp [bV],fun z h=> ?_⟩,by rw [List.length_append];exact hl⟩
 rcases List.mem_append.1 h with h | h
 ·exact hz z h
 ·exact hy z h
theorem sE:∀{l:List Int},l.length≤100→IsB (fA l)
 | [],_=> .nil
 | z::l,h=>by
  have h1:=sE (l:=l) (by simp only [List.length_cons] at h;omega)
  have h2:=j4 l
  exact j5 (b:=fA l) (cC (k:=2) z (by decide)) h1 (by rw [bJ,h2];simp only [List.length_cons] at h;have:Int.toNat 2=2:=rfl;omega)
def fU (n:Int):Bs:=aM 1 2++aM 1 n
theorem xZ (n:Int):IsB (fU n):=j5 (cC 2 (by decide)) (cC n (by decide)) (by rw [bJ,bJ];decide)
theorem mR (n:Int):(fU n).length=2:=by unfold fU;rw [List.length_append,bJ,bJ];rfl
theorem x0 {l:List Int} (h:l.length≤16):IsB (fU l.length++fA l):=j5 (xZ _) (sE (by omega)) (by rw [mR,j4];omega)
theorem Ai:aZ Try.prog ae (aw [(qA,gK .i64 1),(iJ,gK .i64 2)]):=az fun p hp=>by
 rcases List.mem_cons.1 hp with rfl | hp;exact AV
 obtain rfl:=List.mem_singleton.1 hp;exact Dl
theorem B9 {l:List Int} (hn:l.length≤16) (ha:l.all dt=true):gO Try.prog ae (Ge (fU l.length) (fU l.length++fA l) (iV l) (ar Try.prog l3 0)):=bw fun p hp=>by
  obtain rfl:=List.mem_singleton.1 hp
  refine bL fun K hK=> ?_
  have htk:∀j,IsB (fU l.length++fA (l.take j)):=fun j=>j5 (xZ _) (sE (by rw [List.length_take];omega)) (by rw [mR,j4,List.length_take];omega)
  have h:=BG (P:=Try.prog) (G:=ae) (f:=l3) (id:=0) (by kernel_rfl) 24 xU (fun j=>sD (fU l.length++fA (l.take j.toNat)) (iV l) j) ⟨[], []⟩ l.length (fun e vs T=>e= .normal∧vs=sD (fU l.length++fA l) (iV l) (iV l).length∧T=⟨[], []⟩) (fun j hj=> ?_) K (fun e vs T ⟨h1,h2,h3⟩=>by subst h1 h2 h3;exact hK)
  · have e:fU l.length++fA (l.take ((0:Nat):Int).toNat)=fU l.length:=List.append_nil _
    simp only [e] at h
    exact h
  · by_cases hlt:j<l.length
    · have hat:(iV l)[((j:Nat):Int).toNat]?=some (iT l[j]):=by rw [Int.toNat_natCast,iV,List.getElem?_map,List.getElem?_eq_getElem hlt];rfl
      have hz:=List.all_eq_true.1 ha _ (List.getElem_mem hlt)
      simp only [dt,Bool.and_eq_true,decide_eq_true_eq] at hz
      refine bF ac aa Ai ag (xW (fU l.length++fA (l.take j)) (iV l) l[j] j _) ?_
      refine bp (decide_eq_true (by rw [eX];omega)) ⟨kN rfl rfl (by omega) hat,rfl,⟨⟨⟨by omega,by omega⟩,by decide,by decide⟩,htk j,fun h=> ?_⟩,rfl,rfl,hlt, .inl ⟨rfl, ?_⟩⟩
      · have:=congrArg List.length h
        rw [List.length_append,mR] at this;simp at this
      · rw [rc hlt (by omega)]
        show _=sD (fU l.length++fA (l.take (j+1))) (iV l) _
        rw [Ah hlt,←List.append_assoc]
        rfl
    · have hj2:j=l.length:=by omega
      subst hj2
      refine bF ac aa Ai ag (xW (fU l.length++fA (l.take l.length)) (iV l) 0 l.length _) ?_
      exact aX (decide_eq_false (by rw [eX];omega)) ⟨rfl,rfl,rfl,by simp only [sD,eX,List.take_length],rfl⟩
theorem Dy {l:List Int} (hn:l.length≤16) (ha:l.all dt=true):VCx Try.prog ae 0 l3 [.vec 1 (iV l) .none] ⟨[], []⟩ fun x T' =>x= .vec 1 (gQ (iV l)) .none∧T' =⟨[], []⟩:=by
 refine VCx.toLe (Q:=fun T' =>T' =⟨[], []⟩) (VCx.keepQ 0 0 (Nat.le_refl _) (Nat.le_refl _) (ah ac aa Ai (B9 hn ha) (Fz (fU l.length) (fU l.length++fA l) (iV l) _) ?_))
 rw [sq,eX]
 cases l with
 | nil=>exact bp rfl ⟨.nil 1,rfl⟩
 | cons z l=>
  refine aX (decide_eq_false (by simp only [List.length_cons];omega)) ⟨rfl,⟨⟨by decide,by decide⟩,by decide,by decide⟩,rfl,⟨⟨⟨by omega,by omega⟩,by decide,by decide⟩,cC 2 (by decide),fun h=> ?_⟩,rfl,⟨rfl,rfl,rfl,trivial,rfl,rfl,rfl⟩, ?_,rfl⟩
  ·have:=congrArg List.length h;rw [bJ] at this;cases this
  ·have e:gQ (iV (z::l))=fU (z::l).length++fA (z::l):=by
    unfold gQ;rw [gL,eX];rfl
   rw [e]
   simp only [TV.ren,(x0 hn).ren,Tok.ren]
   exact .refl _
theorem x3 {l:List Int} (hn:l.length≤16):IsB (gQ (iV l))∧(gQ (iV l)).length≤34:=by
 cases l with
 | nil=>exact ⟨.nil,Nat.zero_le _⟩
 | cons z l=>
  have e:gQ (iV (z::l))=fU (z::l).length++fA (z::l):=by
   unfold gQ;rw [gL,eX];rfl
  rw [e]
  exact ⟨x0 hn,by rw [List.length_append,mR,j4];omega⟩
theorem Dz:∀ro ys T K,AY ro ys T K→VCx Try.prog ae ro l3 ys T K:=by
 intro ro ys T K hw
 unfold AY at hw
 split at hw
 ·obtain ⟨⟨l,rfl,hn,ha⟩,hk⟩:=hw
  exact VCx.loosePure am (Dy hn ha) (by simp [b9]) (by simp [av,TV.ren,dA,Tok.ren]) (fun f g=>by simp only [TV.ren,(x3 hn).1.ren,Tok.ren]) hk
 ·exact hw.elim
end
--MbG
section
open Go.RowKit

abbrev nn:=Int × Int × Bs
def eY (r:nn):List TV:=we r.1 r.2.1 r.2.2
def ef (l:List nn):Bs:=l.flatMap fun r=>fw r.1 r.2.1 r.2.2
theorem mS:∀l:List nn,Ds (l.map eY)=ef l
 | []=>rfl
 | r::l=>by
  have:=mS l
  simp only [Ds,ef,List.map_cons,List.flatMap_cons] at this ⊢
  rw [this];rfl
theorem uG {l:List nn} (h:∀r∈l,iI r.1 r.2.1 r.2.2∧r.2.2.length≤1000) (f g:Nat→Option Nat):bf f g (l.map eY)=l.map eY:=by
 induction l with
 | nil=>rfl
 | cons r l ih=>
  have hb:=(h r List.mem_cons_self).1.2.2.1
  rw [List.map_cons,bf,ih (fun q hq=>h q (List.mem_cons_of_mem _ hq))]
  simp only [eY,we,av,TV.ren,hb.ren,Tok.ren]
theorem pO (fl t:Int) (v:Bs):(fw fl t v).length≤v.length+4:=by
 unfold fw sv
 have:=(xM fl v).2
 cases lh fl<;>simp only [cond_true,cond_false,List.length_append,List.length_take,List.length_cons,List.length_nil]<;>omega
theorem mT:∀{l:List nn},(∀r∈l,iI r.1 r.2.1 r.2.2∧r.2.2.length≤1000)→(ef l).length≤1004*l.length
 | [],_=>Nat.zero_le _
 | r::l,h=>by
  have h1:=mT (l:=l) fun q hq=>h q (List.mem_cons_of_mem _ hq)
  have h2:=(h r List.mem_cons_self).2
  have h3:=pO r.1 r.2.1 r.2.2
  simp only [ef,List.flatMap_cons,List.length_append,List.length_cons] at h1 ⊢
  omega
theorem j6:∀{l:List nn},(∀r∈l,iI r.1 r.2.1 r.2.2∧r.2.2.length≤1000)→l.length≤10→IsB (ef l)
 | [],_,_=> .nil
 | r::l,h,hl=>by
  have hq:∀q∈l,iI q.1 q.2.1 q.2.2∧q.2.2.length≤1000:=fun q hq=>h q (List.mem_cons_of_mem _ hq)
  simp only [List.length_cons] at hl
  have h1:=j6 (l:=l) hq (by omega)
  obtain ⟨⟨_,_,hb,hv⟩,h2⟩:=h r List.mem_cons_self
  have h3:=pO r.1 r.2.1 r.2.2
  have h4:=mT hq
  exact j5 (b:=ef l) (oV (fl:=r.1) (t:=r.2.1) hb hv) h1 (by show (fw r.1 r.2.1 r.2.2).length+(ef l).length≤_;omega)
theorem Aj {l:List nn} {j:Nat} (h:j<l.length):ef (l.take (j+1))=ef (l.take j)++fw l[j].1 l[j].2.1 l[j].2.2:=by
 unfold ef
 rw [List.take_add_one,List.getElem?_eq_getElem h,List.flatMap_append]
 simp
theorem Ca:∀ro ys T K,wi ro ys T K→VCx Try.prog ae ro nO ys T K:=by
 intro ro ys T K hw
 unfold wi at hw
 split at hw
 ·rename_i fl t v
  obtain ⟨⟨h1,h2,hv,hl⟩,hk⟩:=hw
  have hb:=oV (fl:=fl) (t:=t) hv hl
  refine VCx.liftPure (xs:= [pL fl t v]) am ?_ ?_ (fun f g=>by simp only [TV.ren,Dr,hb.ren,Tok.ren]) hk
  ·cases v with
   | nil=>exact Ae fl t
   | cons r v=>exact B1 fl t hv hl
  ·simp only [av,pL,TV.ren,hv.ren,Tok.ren]
 ·exact hw.elim
theorem qE:∃(inf:TypeInfo) (z:Value),Try.prog.info? 162=some inf∧inf.size=3∧inf.bytes+1≤1000∧inf.zero=some z∧z.cells.size=3:=
 ⟨(Try.prog.info? 162).getD default,((Try.prog.info? 162).getD default).zero.getD default,by kernel_rfl,by kernel_rfl,Nat.le_of_ble_eq_true (by kernel_rfl),by kernel_rfl,by kernel_rfl⟩
theorem x4 {x i:Operand} {l:List (Nat × TV)} {es:Bs} {tok:Tok} {k:IntKind} {z:Int} {cs:List TV} (hx:aN ae l x= .vec 3 es tok) (hz:aN ae l i= .val (.int k z)) (h0:0≤z) (he:es[z.toNat]?=some cs):aU Try.prog ae (.indexAddr 165 x i) l (.elt cs):=by
 obtain ⟨inf,_,i1,i2,_,_,_⟩:=qE
 exact eW (inf:=inf) Try.underlying165 i1 (by rw [i2];exact hx) hz h0 he
theorem Cb {l:List nn} (h:∀r∈l,iI r.1 r.2.1 r.2.2∧r.2.2.length≤1000) (hl:l.length≤10):gO Try.prog ae (Gf (ef l) (l.map eY) (ar Try.prog l4 0)):=bw fun p hp=>by
  obtain rfl:=List.mem_singleton.1 hp
  have hS:aZ Try.prog ae (aw [(nO,wi)]):=az fun p hp=>by obtain rfl:=List.mem_singleton.1 hp;exact Ca
  have hq:∀j,∀r∈l.take j,iI r.1 r.2.1 r.2.2∧r.2.2.length≤1000:=fun j r hr=>h r (List.mem_of_mem_take hr)
  refine zD fun K hK=> ?_
  refine di (f:=l4) (id:=0) (by kernel_rfl) 18 xV (fun j:Nat=>l.length-j) (fun j:Nat=>uF (ef (l.take j)) (l.map eY) j) (fun j=>⟨[], [((ef (l.take j)).length,1,true)]⟩) (fun j=>j≤l.length) 0 1 (fun _ _=>⟨Nat.le_refl _,Nat.le_refl _⟩)
    (fun e vs T=>e= .normal∧vs=uF (ef l) (l.map eY) (l.map eY).length∧T=⟨[], [((ef l).length,1,true)]⟩) (fun j hj=> ?_) 0 (Nat.zero_le _) K ?_
  · by_cases hlt:j<l.length
    · have hat:(l.map eY)[((j:Nat):Int).toNat]?=some (eY l[j]):=by rw [Int.toNat_natCast,List.getElem?_map,List.getElem?_eq_getElem hlt];rfl
      have hp:=h _ (List.getElem_mem hlt)
      have hb1:=mT (hq j)
      have hb2:=pO l[j].1 l[j].2.1 l[j].2.2
      rw [List.length_take] at hb1
      have ht:=uB [.cells (eY l[j])] (ef (l.take j)) (fw l[j].1 l[j].2.1 l[j].2.2) (by omega) 12 14 rfl
      rw [←Aj hlt] at ht
      refine bF ac aa hS ag (xX (ef (l.take j)) (ef (l.take (j+1))) (l.map eY) l[j].2.2 l[j].1 l[j].2.1 j _) ?_
      refine bp (decide_eq_true (by rw [List.length_map];omega)) ⟨x4 rfl rfl (by omega) hat,hp.1,ht,rfl,rfl,j+1,hlt,by show l.length-(j+1)<l.length-j;omega, .inr ⟨rfl, ?_⟩⟩
      simp only [av,TV.ren,uG h,(j6 (hq (j+1)) (by rw [List.length_take];omega)).ren,Tok.ren]
      rw [rc hlt (by omega)]
      rfl
    · have hj2:j=l.length:=by omega
      refine bF ac aa hS ag (xX (ef (l.take j)) [] (l.map eY) [] 0 0 j _) ?_
      subst hj2
      exact aX (decide_eq_false (by rw [List.length_map];omega)) ⟨rfl,rfl,rfl,by simp only [uF,List.length_map,List.take_length],by rw [List.take_length]⟩
  · rintro e vs T ⟨rfl,rfl,rfl⟩
    exact hK
theorem DA {l:List nn} (h:∀r∈l,iI r.1 r.2.1 r.2.2∧r.2.2.length≤1000) (hl:l.length≤10):VCx Try.prog ae 0 l4 [.vec 3 (l.map eY) .none] ⟨[], []⟩ fun x T' =>x= .vec 1 (ef l) .none∧T' =⟨[], []⟩:=by
 refine VCx.toLe (Q:=fun T' =>T' =⟨[], []⟩) (VCx.keepQ 0 0 (Nat.le_refl _) (Nat.le_refl _) (ah ac aa ai (Cb h hl) (FA (ef l) (l.map eY) _) ⟨rfl,⟨rfl,rfl,rfl,⟨rfl,trivial⟩,rfl,rfl,rfl⟩, ?_,rfl⟩))
 simp only [TV.ren,(j6 h hl).ren]
 exact .vec 1 _ _
theorem DB:∀ro ys T K,AX ro ys T K→VCx Try.prog ae ro l4 ys T K:=by
 intro ro ys T K hw
 unfold AX at hw
 split at hw
 ·obtain ⟨⟨l,rfl,hl,h⟩,hk⟩:=hw
  have hb:=j6 h hl
  exact VCx.loosePure (xs:= [.vec 3 (l.map eY) .none]) am (DA h hl) (by simp [b9,eY]) (by simp only [av,TV.ren,uG h,Tok.ren]) (fun f g=>by simp only [TV.ren,hb.ren,Tok.ren]) (hk _ (mS l).symm)
 ·exact hw.elim
theorem AtV.ren (a:AtV) (f g:Nat→Option Nat):av f g a.cells=a.cells:=by
 simp only [AtV.cells,av,TV.ren,dA,Tok.ren]
theorem DC:aZ Try.prog ae (aw [(xS,AW),(wc,wd)]):=az fun p hp=>by
 rcases List.mem_cons.1 hp with rfl | hp;exact Dx
 obtain rfl:=List.mem_singleton.1 hp;exact BX BW
set_option maxHeartbeats 1000000 in
theorem DD (a:AtV) (hn:a.p.length≤9223372036854775807):VCx Try.prog ae 0 oW [.agg a.cells] ⟨[], []⟩ fun x T' =>x= .val (.bool (dB a))∧T' =⟨[], []⟩:=by
 refine VCx.keepQ 0 0 (Nat.le_refl _) (Nat.le_refl _) (ah ac aa DC ag (FB a.o a.h a.m a.hm (iV a.p) _) ?_)
 have hcf:lZ (iV a.p)= !a.p.all dt:=by unfold lZ;rw [gL]
 rw [sq,eX,hcf]
 have hw:jC (iV a.p):=⟨a.p,rfl,hn⟩
 have fin:∀(b:Bool) (T:VT),dB a=b→((TV.val (.bool b)).ren (au 0) (au 0)= .val (.bool (dB a))∧T.keep 0 0=⟨[], []⟩):=fun b T h=>⟨by rw [h];rfl,by simp [VT.keep]⟩
 by_cases h1:a.o<0
 ·exact bp (decide_eq_true h1) (fin false _ (by unfold dB;rw [decide_eq_false (show ¬0≤a.o by omega)];rfl))
 have e1:decide (0≤a.o)=true:=decide_eq_true (by omega)
 refine aX (decide_eq_false h1) ?_
 by_cases h2:a.o>2
 ·exact bp (decide_eq_true h2) (bp (decide_eq_true h2) (fin false _ (by unfold dB;rw [e1,decide_eq_false (show ¬a.o≤2 by omega)];rfl)))
 have e2:decide (a.o≤2)=true:=decide_eq_true (by omega)
 refine aX (decide_eq_false h2) ?_
 cases h3:lY a.h
 ·exact bp rfl (fin false _ (by unfold dB;rw [e1,e2,h3];rfl))
 refine aX rfl ?_
 by_cases h4:((a.p.length:Nat):Int)>16
 ·exact bp (decide_eq_true h4) (bp (decide_eq_true h4) (fin false _ (by unfold dB;rw [e1,e2,h3,decide_eq_false (show ¬a.p.length≤16 by omega)];rfl)))
 have e4:decide (a.p.length≤16)=true:=decide_eq_true (by omega)
 refine aX (decide_eq_false h4) ⟨hw, ?_⟩
 cases h5:a.p.all dt
 ·exact bp rfl (fin false _ (by unfold dB;rw [e1,e2,h3,e4,h5];rfl))
 refine aX rfl ?_
 cases h6:a.hm
 ·exact bp rfl (fin _ _ (by unfold dB;rw [e1,e2,h3,e4,h5,h6];rfl))
 refine aX rfl (bq (fun h7=> ?_) (fun h7=> ?_))
 ·exact fin _ _ (by unfold dB;rw [e1,e2,h3,e4,h5,h6,show decide (0≤a.m)=true from h7];rfl)
 ·exact fin false _ (by unfold dB;rw [e1,e2,h3,e4,h5,h6,show decide (0≤a.m)=false from h7];rfl)
def eZ (a:AtV):List nn:= [(64,1,aM 1 a.o),(64,2,gQ (iV a.p)),(64,3,aM 4 a.h)]++bif a.hm then [(128,4,aM 4 a.m)] else []
def iL (a:AtV):Bs:=bif dB a then ef (eZ a) else []
structure Gg (a:AtV):Prop where
 o:0≤a.o∧a.o≤2
 h:lY a.h=true
 p:a.p.length≤16∧a.p.all dt=true
 m:a.hm=true→0≤a.m∧a.m≤4294967295
 m0:a.hm=false→a.m=0
theorem sF {a:AtV} (h:dB a=true):Gg a:=by
 unfold dB at h
 simp only [Bool.and_eq_true,decide_eq_true_eq] at h
 obtain ⟨h1,h2,h3,h4,h5,h6⟩:=h
 refine ⟨⟨h1,h2⟩,h3,⟨h4,h5⟩,fun h=> ?_,fun h=> ?_⟩
 ·rw [h] at h6
  simp only [cond_true,Bool.and_eq_true,decide_eq_true_eq] at h6
  exact h6
 ·rw [h] at h6
  simp only [cond_false,decide_eq_true_eq] at h6
  exact h6
theorem sG {a:AtV} (h:Gg a):(∀r∈eZ a,iI r.1 r.2.1 r.2.2∧r.2.2.length≤1000)∧(eZ a).length≤10:=by
 have b1:∀(fl t:Nat) (k n:Int),fl<256→t<256→k≤8→iI fl t (aM k n)∧(aM k n).length≤1000:=fun fl t k n h1 h2 h3=>⟨⟨⟨by omega,by omega⟩,⟨by omega,by omega⟩,cC n h3,by rw [bJ];omega⟩,by rw [bJ];omega⟩
 have hs:=x3 h.p.1
 refine ⟨fun r hr=> ?_,by unfold eZ;cases a.hm<;>simp⟩
 unfold eZ at hr
 rcases List.mem_append.1 hr with hr | hr
 ·simp only [List.mem_cons,List.not_mem_nil,or_false] at hr
  rcases hr with rfl | rfl | rfl
  ·exact b1 64 1 1 _ (by decide) (by decide) (by decide)
  ·exact ⟨⟨⟨by show (0:Int)≤64;decide,by show (64:Int)<256;decide⟩,⟨by show (0:Int)≤2;decide,by show (2:Int)<256;decide⟩,hs.1,by have:=hs.2;show (gQ (iV a.p)).length≤_;omega⟩,by have:=hs.2;show (gQ (iV a.p)).length≤_;omega⟩
  ·exact b1 64 3 4 _ (by decide) (by decide) (by decide)
 ·cases hm:a.hm<;>rw [hm] at hr
  ·cases hr
  ·obtain rfl:=List.mem_singleton.1 hr
   exact b1 128 4 4 _ (by decide) (by decide) (by decide)
theorem sH (a:AtV):IsB (iL a):=by
 unfold iL
 cases h:dB a
 ·exact .nil
 ·have:=sG (sF h)
  exact j6 this.1 this.2
theorem uH (a:AtV):(iL a).length≤10040:=by
 unfold iL
 cases h:dB a
 ·exact Nat.zero_le _
 ·have:=sG (sF h)
  have h2:=mT this.1
  have h3:=this.2
  simp only [cond_true];omega
theorem Ak (objs:List VO) (A c:Bs) (hc:A.length+c.length≤1000):aW Try.prog ae 0 ⟨objs, []⟩ (.call ⟨.builtin .append, #[.tmp 22, .tmp 28], #[165,165]⟩) [(22, .vec 3 A .full),(28, .vec 3 c .full)] (.vec 3 (A++c) (.tail 0 c.length)) ⟨objs, [(c.length,3,false)]⟩:=by
  obtain ⟨inf,z,i1,i2,i3,i4,i5⟩:=qE
  have h1:=lV (inf:=inf) (P:=Try.prog) (G:=ae) (ro:=0) (T:=⟨objs, []⟩) (T1:=⟨objs, [(0,3,false)]⟩) (t:=165) (tx:=165) (s:= .tmp 22) (x:= .tmp 28) (l:= [(22, .vec 3 A .full),(28, .vec 3 c .full)]) (es:=A) (es2:=c) (k:=0) (n:=0) (bn:=false) Try.underlying165 i1 i4 (by rw [i2];exact i5) (by rw [i2];decide) (by kernel_rfl)
    (by rw [i2];simp [aN,cu,eR]) (by rw [i2];rfl)
    (by have h1:=i3
        have h2:=Nat.mul_le_mul (show A.length+c.length≤2000001 by omega) h1
        omega)
  rw [i2,Nat.zero_add] at h1
  exact h1
theorem Cc {n:Int} (h0:0≤n) (h1:n≤4294967295):IntKind.u32.wrap n=n:=by
 simp only [IntKind.wrap,IntKind.bits,IntKind.signed];simp;omega
theorem sI (ok:Bool):∀ro ys T K,qD ok ro ys T K→VCx Try.prog ae ro oW ys T K:=by
 intro ro ys T K hw
 unfold qD at hw
 split at hw
 ·obtain ⟨⟨a,rfl,hn,rfl⟩,hk⟩:=hw
  exact VCx.liftPure am (DD a hn) (by simp only [av,TV.ren,a.ren]) (fun _ _=>rfl) hk
 ·exact hw.elim
theorem DE (a:AtV) (hn:a.p.length≤9223372036854775807) (hh:0≤a.h∧a.h<4294967296):VCx Try.prog ae 0 xT [.agg a.cells] ⟨[], []⟩ fun x T' =>x= .vec 1 (iL a) .none∧T' =⟨[], []⟩:=by
  have hS:aZ Try.prog ae (aw [(oW,qD (dB a)),(qA,gK .i64 1),(nP,gK .u32 4),(l3,AY),(l4,AX)]):=az fun p hp=>by
    rcases List.mem_cons.1 hp with rfl | hp;exact sI _
    rcases List.mem_cons.1 hp with rfl | hp;exact AV
    rcases List.mem_cons.1 hp with rfl | hp;exact xQ
    rcases List.mem_cons.1 hp with rfl | hp;exact Dz
    obtain rfl:=List.mem_singleton.1 hp;exact DB
  refine VCx.toLe (Q:=fun T' =>T' =⟨[], []⟩) (VCx.keepQ 0 0 (Nat.le_refl _) (Nat.le_refl _) (ah ac aa hS ag (FC a.o a.h a.m a.hm (dB a) (iV a.p) ((eZ a).map eY) _) ⟨⟨a,rfl,hn,rfl⟩, ?_⟩))
  cases hg:dB a
  · refine bp rfl ⟨?_,by simp [VT.keep]⟩
    unfold iL;rw [hg];exact .nil 1
  · have hA:=sF hg
    have hr:=sG hA
    have hb:=j6 hr.1 hr.2
    have e:iL a=ef (eZ a):=by unfold iL;rw [hg];rfl
    have hend:∀T:VT,TVle ((TV.vec 1 (ef (eZ a)) .none).ren (au 0) (au 0)) (.vec 1 (iL a) .none)∧T.keep 0 0=⟨[], []⟩:=fun T=>⟨by rw [e];simp only [TV.ren,hb.ren,Tok.ren];exact .refl _,by simp [VT.keep]⟩
    have hjd:wg ((eZ a).map eY):=⟨eZ a,rfl,hr.2,hr.1⟩
    refine aX rfl ⟨rfl,⟨⟨hA.o.1,by have:=hA.o.2;omega⟩,by decide,by decide⟩,⟨rfl,rfl,rfl,trivial⟩,⟨a.p,rfl,hA.p.1,hA.p.2⟩,⟨rfl,rfl,rfl,trivial⟩,rfl,⟨⟨hh.1,by omega⟩,by decide,by decide⟩, ?_⟩
    cases hm:a.hm
    · have e2:(eZ a).map eY= [[.val (.int .i64 64), .val (.int .i64 1), .vec 1 (aM 1 a.o) .none], [.val (.int .i64 64), .val (.int .i64 2), .vec 1 (gQ (iV a.p)) .none], [.val (.int .i64 64), .val (.int .i64 3), .vec 1 (aM 4 a.h) .none]]:=by unfold eZ;rw [hm];rfl
      rw [e2] at hjd
      refine aX rfl ⟨hjd,fun v hv=> ?_⟩
      rw [←e2] at hv
      unfold sC at hv
      rw [mS] at hv
      subst hv
      exact hend _
    · have hm2:=hA.m hm
      refine bp rfl ⟨rfl, ?_⟩
      rw [Cc hm2.1 hm2.2]
      have e2:(eZ a).map eY= [[.val (.int .i64 64), .val (.int .i64 1), .vec 1 (aM 1 a.o) .none], [.val (.int .i64 64), .val (.int .i64 2), .vec 1 (gQ (iV a.p)) .none], [.val (.int .i64 64), .val (.int .i64 3), .vec 1 (aM 4 a.h) .none]]++ [[.val (.int .i64 128), .val (.int .i64 4), .vec 1 (aM 4 a.m) .none]]:=by unfold eZ;rw [hm];rfl
      refine ⟨⟨⟨hm2.1,by omega⟩,by decide,by decide⟩, ?_,hjd,fun v hv=> ?_⟩
      · rw [e2]
        exact Ak _ _ _ (by show 3+1≤1000;decide)
      · unfold sC at hv
        rw [mS] at hv
        subst hv
        exact hend _
theorem x5 (a b:AtV) (hn:a.p.length≤9223372036854775807) (hn2:b.p.length≤9223372036854775807):VCx Try.prog ae 0 nm [.agg a.cells, .agg b.cells] ⟨[], []⟩ fun x T' =>x= .val (.bool (decide (a=b)))∧T' =⟨[], []⟩:=by
 have hS:aZ Try.prog ae (aw [(nj,Dv)]):=az fun p hp=>by
  obtain rfl:=List.mem_singleton.1 hp
  intro ro ys T K hw
  simp only at hw
  unfold Dv at hw
  split at hw
  ·obtain ⟨⟨⟨l,rfl,hn⟩,⟨m,rfl,hn2⟩⟩,hk⟩:=hw
   have e:uE (iV l) (iV m)=decide (l=m):=by unfold uE;rw [gL,gL]
   rw [e] at hk
   exact VCx.loosePure am (Dp hn) (by simp [b9]) (by simp [av,TV.ren,dA,Tok.ren]) (fun _ _=>rfl) hk
  ·exact hw.elim
 have e:uE (iV a.p) (iV b.p)=decide (a.p=b.p):=by unfold uE;rw [gL,gL]
 refine VCx.keepQ 0 0 (Nat.le_refl _) (Nat.le_refl _) (ah ac aa hS ag (FD a.o a.h a.m b.o b.h b.m a.hm b.hm (iV a.p) (iV b.p) _) ?_)
 have fin:∀(q:Bool) (T:VT),decide (a=b)=q→((TV.val (.bool q)).ren (au 0) (au 0)= .val (.bool (decide (a=b)))∧T.keep 0 0=⟨[], []⟩):=fun b T h=>⟨by rw [h];rfl,by simp [VT.keep]⟩
 have ne:∀{X:Prop},(a=b→X)→¬X→decide (a=b)=false:=fun h k=>decide_eq_false fun c=>k (h c)
 rw [sq,sq,sq,e]
 refine bq (fun c1=>bq (fun c2=>bq (fun c3=>bq (fun c4=> ?_) (fun c4=> ?_)) (fun c3=> ?_)) (fun c2=> ?_)) (fun c1=> ?_)
 ·refine ⟨⟨⟨_,rfl,hn⟩,⟨_,rfl,hn2⟩⟩,fin _ _ ?_⟩
  have d1:=of_decide_eq_true c1
  have d2:=of_decide_eq_true c2
  have d3:=of_decide_eq_true c3
  have d4:a.hm=b.hm:=by simpa [bb,ak,bZ] using c4
  refine decide_eq_decide.2 ⟨fun h=>by rw [h],fun hp=> ?_⟩
  obtain ⟨o,p,h,m,hm⟩:=a
  obtain ⟨o2,p2,h2,m2,hm2⟩:=b
  simp only [AtV.mk.injEq]
  exact ⟨d1,hp,d2,d3,d4⟩
 ·exact fin false _ (ne (X:=a.hm=b.hm) (fun h=>by rw [h]) (fun h=>by rw [h] at c4;simp [bb,ak,bZ] at c4))
 ·exact fin false _ (ne (X:=a.m=b.m) (fun h=>by rw [h]) (of_decide_eq_false c3))
 ·exact fin false _ (ne (X:=a.h=b.h) (fun h=>by rw [h]) (of_decide_eq_false c2))
 ·exact fin false _ (ne (X:=a.o=b.o) (fun h=>by rw [h]) (of_decide_eq_false c1))
end
--MsFa
section
open Go.RowKit

abbrev uI:=98
abbrev sJ:=129
def sK (n:Int) (y:TV) (T2:VT) (ro:Nat) (T:VT):Prop:=VCx Try.prog ae ro sJ [.val (.slice none 0 0), .val (.int .i64 n)] T fun x T1=>x=y∧T1=T2
def x6 (gy:TV) (gT:VT):aO:=fun ro ys T K=>match ys with
 | [.val (.slice none 0 0), .val (.int .i64 n)]=>sK n gy gT ro T∧K gy gT
 | _=>ap 84 default ys
def DF (y1 y2:TV) (T1 T2:VT):List TV→Option (TV × Option VT)
 | [.row _ 0 _ _, .vec _ (_::_) _]=>some (y1,some T1)
 | [.row _ (_+1) _ _, .vec _ (_::_) _]=>some (y2,some T2)
 | _=>none
def wj (y1 y2:TV) (T1 T2:VT):fS:=fun o σ _=>match o.dst with
 | some d=>bif Nat.beq d 33 then DF y1 y2 T1 T2 σ else none
 | none=>none
theorem FE (n:Int) (k:Nat) (W:List TV) (T:VT) (Q:TV→VT→Prop):an Try.prog ae bc (aV [(22, .row 1 0 0 k,some fun T=>T.newRow W)]) 300 ay 0 sJ [.val (.slice none 0 0), .val (.int .i64 n)] ⟨[], []⟩ Q=
 (bif decide (n<(0:Int))
 then False
 else (bif decide (IntKind.wrap IntKind.i64 (n-IntKind.wrap IntKind.i64 ((↑(0:Nat):Int)-(↑(0:Nat):Int)))>(0:Int))
 then (aW Try.prog (fun _=> .none) 0 ⟨[], []⟩ (.call ⟨(.builtin .append), #[(.tmp 20),(.tmp 21)], #[108,3]⟩) [(20,(.val (.slice .none 0 0))),(21,(.val (.int .i64 (IntKind.wrap IntKind.i64 (n-IntKind.wrap IntKind.i64 ((↑(0:Nat):Int)-(↑(0:Nat):Int)))))))] (.row 1 0 0 (k)) ⟨[(.row (W))], []⟩∧
 Q (.row 1 0 0 0) ⟨[(.row (W))], []⟩)
 else Q (.val (.slice .none 0 0)) ⟨[], []⟩)):=by kernel_rfl
end
--MsFb
section
open Go.RowKit

def zR (n:Nat):List TV:=(Builtin.zeroCells (Value.int .u8 0).cells n).toList.map .val
theorem DG (n:Nat):(zR n).length=n:=by
 unfold zR
 rw [List.length_map,Array.length_toList,size_zeroCells]
 exact Nat.mul_one n
theorem DH (f g:Nat→Option Nat) (n:Nat):av f g (zR n)=zR n:=lr _ _ _
theorem DI {n:Int} (h0:0<n) (h1:n≤2000000):VCx Try.prog ae 0 sJ [.val (.slice none 0 0), .val (.int .i64 n)] ⟨[], []⟩ fun x T1=>x= .row 1 0 0 0∧T1=⟨[.row (zR n.toNat)], []⟩:=by
 obtain ⟨inf,i1,i2,i3,i4⟩:=iG
 refine ah ac aa ai ag (FE n n.toNat (zR n.toNat) ⟨[], []⟩ _) ?_
 have e:IntKind.wrap IntKind.i64 (n-IntKind.wrap IntKind.i64 (((0:Nat):Int)-((0:Nat):Int)))=n:=by
  rw [show IntKind.wrap IntKind.i64 (((0:Nat):Int)-((0:Nat):Int))=0 from rfl,Int.sub_zero,cj (by omega) (by omega)]
 refine aX (decide_eq_false (by omega)) (bp (decide_eq_true (by rw [e];exact h0)) ⟨?_,rfl,rfl⟩)
 rw [e]
 have h:=oS (P:=Try.prog) (G:=ae) (ro:=0) (T:=⟨[], []⟩) (t:=108) (tn:=3) (s:= .tmp 20) (x:= .tmp 21) (l:= [(20, .val (.slice none 0 0)),(21, .val (.int .i64 n))]) (inf:=inf) (m:=n) Try.underlying108 Try.underlying3 i1 i4 (by rw [i2];rfl) (by rw [i2];decide) rfl rfl rfl h0 (by rw [i3];omega)
 rw [i2] at h
 exact h
theorem AZ {n:Int} (h0:0<n) (h1:n≤2000000) (ro:Nat) (T:VT):sK n (.row 1 T.objs.length 0 0) {T with objs:=T.objs++ [.row (zR n.toNat)]} ro T:=by
 unfold sK
 refine (VCx.lift (T:=T) [] [] am List.nodup_nil List.nodup_nil (by simp) (by simp) (by simp) rfl (by rw [VT.give_nil];exact DI h0 h1) (fun _ _ _=>⟨Nat.zero_le _,Nat.zero_le _⟩)).mono ?_
 rintro z T' ⟨x,T'',⟨rfl,rfl⟩,rfl,rfl⟩
 refine ⟨by simp [TV.ren,aI], ?_⟩
 rw [VT.back_nil]
 simp [VO.ren,DH]
theorem DJ {gy:TV} {gT:VT}:∀ro ys T K,x6 gy gT ro ys T K→VCx Try.prog ae ro sJ ys T K:=by
 intro ro ys T K hw
 unfold x6 at hw
 split at hw
 ·obtain ⟨h,hk⟩:=hw
  exact VCx.mono h fun x T1 ⟨h1,h2⟩=>by subst h1 h2;exact hk
 ·exact hw.elim
theorem uJ:∀l:List Int,(bV l).flatten=l.map GH
 | []=>rfl
 | z::l=>by
  have:=uJ l
  simp only [bV,List.map_cons,List.flatten_cons] at this ⊢
  rw [this];rfl
theorem IsB.append {a b:Bs} (h:IsB a) (k:IsB b) (hl:(a++b).length≤1000000):IsB (a++b):=by
 obtain ⟨⟨l,rfl,hz⟩,_⟩:=h
 obtain ⟨⟨m,rfl,hy⟩,_⟩:=k
 refine ⟨⟨l++m,by simp [bV],fun z h=> ?_⟩,hl⟩
 rcases List.mem_append.1 h with h | h
 ·exact hz z h
 ·exact hy z h
theorem qF {w:Bs} (h:IsB w):w.flatten.length=w.length:=by
 obtain ⟨⟨l,rfl,_⟩,_⟩:=h
 rw [uJ]
 simp [bV]
theorem DK {gy:TV} {gT:VT}:aZ Try.prog ae (aw [(sJ,x6 gy gT)]):=az fun p hp=>by
 obtain rfl:=List.mem_singleton.1 hp;exact DJ
end
--MbH
section
open Go.RowKit

abbrev sL:=64
abbrev l5:=122
abbrev l6:=90
abbrev jD:=121
abbrev sM:=89
abbrev sN:=63
abbrev DL:=91
abbrev Gi:=27
abbrev sO:=99
abbrev Gj:=66
def oX (n:Int):Int:=if (32:Int)<if (0:Int)>n then (0:Int) else n then (32:Int) else if (0:Int)>n then (0:Int) else n
def sP (a n:Int):Int:=AR a (oX n)
def fV (a n:Int):Bool:=decide (a=sP a n)&&decide (n=oX n)
def GN:List TV→Int × Int
 | [.val (.int _ a), .val (.int _ n)]=>(a,n)
 | _=>(0,0)
def A0 (l:Bs):List (Int × Int):=l.map GN
def l7 (l:Bs):Prop:=∃p:List (Int × Int),l=aD p∧p.length≤100000
def wk (l:Bs):Prop:=∃p:List (Int × Int),l=aD p∧p.length≤2000000
def gR (l:Bs):Bool:= !(A0 l).all fun p=>fV p.1 p.2
def dj:AtV:=⟨0, [],0,0,false⟩
def DM:List TV:= [.val (.int .i64 0), .val (.slice none 0 0), .val (.int .u32 0), .val (.int .i64 0), .val (.bool false)]
def Al (l m:List TV) (ok:Bool):Prop:=∃a:AtV,l=a.cells∧a.p.length≤9223372036854775807∧m=DM∧ok=decide (a=dj)
def DN (l m:List TV) (ok:Bool):Prop:=∃a b:AtV,(l=a.cells∧m=b.cells)∧(a.p.length≤9223372036854775807∧b.p.length≤9223372036854775807)∧ok=decide (a=b)
def DO (l:List TV) (v:Bs):Prop:=∃a:AtV,l=a.cells∧a.p.length≤9223372036854775807∧(0≤a.h∧a.h<4294967296)∧v=iL a
def sQ (l:Bs):Prop:=∃p:List (Int × Int),l=aD p∧kR p
def fB (l:Bs):Bs:=bX (A0 l)
def pP (b:Bs):Prop:=IsB b∧b.length≤500000
def sR (a b c:Bs):Prop:=(IsB a∧a≠ [])∧(IsB b∧b≠ [])∧IsB c∧a.length+b.length+c.length≤1000000
structure UpV where
 w:List (Int × Int)
 a:AtV
 n:List (Int × Int)
 deriving DecidableEq
def UpV.cells (u:UpV):List TV:= [.vec 2 (aD u.w) .none, .val (.int .i64 u.a.o), .vec 1 (iV u.a.p) .none, .val (.int .u32 u.a.h), .val (.int .i64 u.a.m), .val (.bool u.a.hm), .vec 2 (aD u.n) .none]
def fC (u:UpV):Bool:=(u.w++u.n).all (fun p=>fV p.1 p.2)&&bif decide ((u.n.length:Int)>0) then dB u.a else decide (u.a=dj)
def l8 (u:UpV):Bs:=bif decide ((u.n.length:Int)>0) then iL u.a else []
def l9 (u:UpV):Bs:=(aM 2 (bX u.w).length++bX u.w)++((aM 2 (l8 u).length++l8 u)++bX u.n)
def jE (u:UpV):Prop:=u.w.length≤50000∧u.n.length≤50000∧u.a.p.length≤9223372036854775807∧0≤u.a.h∧u.a.h<4294967296
def g5 (n:Int) (y:TV) (T2:VT) (ro:Nat) (T:VT):Prop:=VCx Try.prog ae ro l5 [.val (.slice none 0 0), .val (.int .i64 n)] T fun x T1=>x=y∧T1=T2
def nQ (gy:TV) (gT:VT):aO:=fun ro ys T K=>match ys with
 | [.val (.slice none 0 0), .val (.int .i64 n)]=>g5 n gy gT ro T∧K gy gT
 | _=>ap 84 default ys
def DP (y1 y2 y3:TV) (T1 T2 T3:VT):List TV→Option (TV × Option VT)
 | [.row _ 0 _ _, .vec _ (_::_) _]=>some (y1,some T1)
 | [.row _ 1 _ _, .vec _ (_::_) _]=>some (y2,some T2)
 | [.row _ (_+2) _ _, .vec _ (_::_) _]=>some (y3,some T3)
 | _=>none
def A1 (y1 y2 y3:TV) (T1 T2 T3:VT):fS:=fun o σ _=>match o.dst with
 | some d=>bif Nat.beq d 33 then DP y1 y2 y3 T1 T2 T3 σ else none
 | none=>none
def oY:aO:=fun _ ys T K=>match ys with
 | [x, .val (.int .u64 n), .val (.int .i64 k)]=>match x with
  | .val (.slice none 0 0)=>dS n k∧K (.vec 1 (aM k n) (.tail T.tails.length 0)) {T with tails:=T.tails++ [(0,1,false)]}
  | .vec 1 b _=>(dS n k∧nk b)∧K (.vec 1 (b++aM k n) (.tail T.tails.length 0)) {T with tails:=T.tails++ [(0,1,false)]}
  | _=>ap 85 default ys
 | _=>ap 84 default ys
def sS (kd:IntKind) (k:Int):aO:=fun _ ys T K=>match ys with
 | [x, .val (.int q n)]=>(q=kd)∧match x with
  | .val (.slice none 0 0)=>dS n k∧K (.vec 1 (aM k n) (.tail T.tails.length 0)) {T with tails:=T.tails++ [(0,1,false)]}
  | .vec 1 b _=>(dS n k∧nk b)∧K (.vec 1 (b++aM k n) (.tail T.tails.length 0)) {T with tails:=T.tails++ [(0,1,false)]}
  | _=>ap 85 default ys
 | _=>ap 84 default ys
def nR:TV:= .fn (.func 64) [] []
def Am:aO:=fun _ ys T K=>match ys with
 | [.agg [.val (.int .u32 a), .val (.int .i64 n)]]=>K (.agg [.val (.int .u32 (sP a n)), .val (.int .i64 (oX n))]) T
 | _=>ap 84 default ys
def uK:aO:=fun _ ys T K=>match ys with
 | [.agg [.val (.int .u32 a), .val (.int .i64 n)]]=>K (.val (.bool (fV a n))) T
 | _=>ap 84 default ys
def An:aO:=fun ro ys T K=>match ys with
 | [.vec 2 l _, .fn (.func 91) [] [.ptr i 0]]=>(((@Eq Bool (Nat.ble ro i) true)∧(@Eq (Option VO) (T.objs[i]?) (some (.cells [nR]))))∧wk l)∧bif gR l then ∀z:Nat,K (.val (.int .i64 (Int.ofNat z))) T else K (.val (.int .i64 (-1))) T
 | _=>ap 84 default ys
def wl:aO:=fun ro ys T K=>match ys with
 | [.vec 2 l _, .fn (.func 91) [] [.ptr i 0]]=>(((@Eq Bool (Nat.ble ro i) true)∧(@Eq (Option VO) (T.objs[i]?) (some (.cells [nR]))))∧wk l)∧K (.val (.bool (gR l))) T
 | _=>ap 84 default ys
def wm:aO:=fun _ ys T K=>match ys with
 | [.vec 1 [[.vec 2 a _], [.vec 2 b _]] _]=>(l7 a∧l7 b)∧K (.vec 2 (a++b) .none) T
 | _=>ap 84 default ys
def wo:aO:=fun _ ys T K=>match ys with
 | [.fn (.func 64) [] [], .vec 1 [[.vec 2 a _], [.vec 2 b _]] _]=>(l7 a∧l7 b)∧K (.val (.bool (!gR (a++b)))) T
 | _=>ap 84 default ys
def uL (ok:Bool):aO:=fun _ ys T K=>match ys with
 | [.agg l, .agg m]=>Al l m ok∧K (.val (.bool ok)) T
 | _=>ap 84 default ys
def A2 (ok:Bool):aO:=fun _ ys T K=>match ys with
 | [.agg l, .agg m]=>DN l m ok∧K (.val (.bool ok)) T
 | _=>ap 84 default ys
def A3 (v:Bs):aO:=fun _ ys T K=>match ys with
 | [.agg l]=>DO l v∧K (.vec 1 v .none) T
 | _=>ap 84 default ys
def A4:aO:=fun _ ys T K=>match ys with
 | [.vec 2 l _]=>sQ l∧K (.vec 1 (fB l) .none) T
 | _=>ap 84 default ys
def A5:aO:=fun _ ys T K=>match ys with
 | [.val (.slice none 0 0)]=>K (.vec 1 (aM 2 0) .none) T
 | [.vec 1 b _]=>pP b∧K (.vec 1 (aM 2 b.length++b) .none) T
 | _=>ap 84 default ys
def wq:aO:=fun _ ys T K=>match ys with
 | [.vec 1 [[.vec 1 a _], [.vec 1 b _], [.vec 1 c _]] _]=>sR a b c∧K (.vec 1 (a++(b++c)) .none) T
 | _=>ap 84 default ys
def uM:List Nat:= [0,1,4,7,8]
def qG (l:Bs) (r j:Int):List TV:= [.vec 2 l .none, .fn (.func 91) [] [.ptr 0 0], .val (.int .i64 r), .val (.int .i64 l.length), .val (.int .i64 j)]
def ma:VT:=⟨[.cells [nR]], []⟩
def GO (l:Bs) (ok:Bool) (K:KX):Prop:=∀(z:Nat) (a n:Int),bif ok then K .normal (aq 19 uM (qG l 0 l.length)) ma [] else K .ret (aq 19 uM (qG l z z)) ⟨[.cells [nR], .cells [.val (.int .u32 a), .val (.int .i64 n)]], []⟩ []
def Gk (l:Bs) (ok:Bool) (c0:Code):Nat→Option (bP × Code):=cB [(0,dw 19 uM [] (qG l 0 0) ma (GO l ok),c0)]
theorem Cd (b:Bs) (tok:Tok) (n:Int) (Q:TV→VT→Prop):an Try.prog ae (aw [(dz,oY)]) aF 300 ay 0 iJ [.vec 1 b tok, .val (.int .i64 n)] ⟨[], []⟩ Q=
 ((dS (IntKind.wrap IntKind.u64 n) 2∧
 nk (b))∧
 Q (.vec 1 (b++aM (2:Int) (IntKind.wrap IntKind.u64 n)) (.tail 0 0)) ⟨[], [(0,(1,false))]⟩):=by kernel_rfl
theorem Ao (n:Int) (Q:TV→VT→Prop):an Try.prog ae (aw [(dz,oY)]) aF 300 ay 0 iJ [.val (.slice none 0 0), .val (.int .i64 n)] ⟨[], []⟩ Q=
 (dS (IntKind.wrap IntKind.u64 n) 2∧
 Q (.vec 1 (aM (2:Int) (IntKind.wrap IntKind.u64 n)) (.tail 0 0)) ⟨[], [(0,(1,false))]⟩):=by kernel_rfl
theorem FF (a n:Int) (Q:TV→VT→Prop):an Try.prog ae (aw [(nM,Am)]) (aV [(999998, .dead,none)]) 300 ay 0 sL [.agg [.val (.int .u32 a), .val (.int .i64 n)]] ⟨[], []⟩ Q=
 (((@Eq (Option TV) (.some (.agg [(.val (.int .u32 (a))),(.val (.int .i64 (n)))])) (.some (.agg [(.val (.int .u32 (a))),(.val (.int .i64 (n)))])))∧
 ((@Eq (Option TV) (.some (.agg [(.val (.int .u32 (a))),(.val (.int .i64 (n)))])) (.some (.agg [(.val (.int .u32 (a))),(.val (.int .i64 (n)))])))∧
 True))∧
 Q (.val (.bool (bb BinOp.eql (ak ((fun vs=>Value.agg (List.toArray vs)) ((fun x=>Value.int IntKind.u32 a::x) ((fun x=>Value.int IntKind.i64 n::x) []))) ((fun vs=>Value.agg (List.toArray vs)) ((fun x=>Value.int IntKind.u32 (sP a n)::x) ((fun x=>Value.int IntKind.i64 (oX n)::x) []))))))) ⟨[(.cells [(.val (.int .u32 (a))),(.val (.int .i64 (n)))])], []⟩):=by kernel_rfl
theorem x7 (n:Int) (k:Nat) (W:List TV) (T:VT) (Q:TV→VT→Prop):an Try.prog ae bc (aV [(22, .row 2 0 0 k,some fun T=>T.newRow W)]) 300 ay 0 l5 [.val (.slice none 0 0), .val (.int .i64 n)] ⟨[], []⟩ Q=
 (bif decide (n<(0:Int))
 then False
 else (bif decide (IntKind.wrap IntKind.i64 (n-IntKind.wrap IntKind.i64 ((↑(0:Nat):Int)-(↑(0:Nat):Int)))>(0:Int))
 then (aW Try.prog (fun _=> .none) 0 ⟨[], []⟩ (.call ⟨(.builtin .append), #[(.tmp 20),(.tmp 21)], #[42,3]⟩) [(20,(.val (.slice .none 0 0))),(21,(.val (.int .i64 (IntKind.wrap IntKind.i64 (n-IntKind.wrap IntKind.i64 ((↑(0:Nat):Int)-(↑(0:Nat):Int)))))))] (.row 2 0 0 (k)) ⟨[(.row (W))], []⟩∧
 Q (.row 2 0 0 0) ⟨[(.row (W))], []⟩)
 else Q (.val (.slice .none 0 0)) ⟨[], []⟩)):=by kernel_rfl
theorem Ce (q r:List TV) (a b:Bs) (k:Nat) (W:List TV) (tok tok1 tok2:Tok) (y2:TV) (T0 T1 T2:VT) (Q:TV→VT→Prop):an Try.prog ae (aw [(l5,nQ (.row 2 0 0 0) T0)]) (wj (.row 2 1 0 k) y2 T1 T2) 300 ay 0 l6 [.vec 1 [[.vec 2 (q::a) tok1], [.vec 2 (r::b) tok2]] tok] ⟨[], []⟩ Q=
 (bif decide (IntKind.wrap IntKind.i64 ((0:Int)+(↑(List.length (q::a)):Int))<(0:Int))
 then False
 else (bif decide (IntKind.wrap IntKind.i64 (IntKind.wrap IntKind.i64 ((0:Int)+(↑(List.length (q::a)):Int))+(↑(List.length (r::b)):Int))<(0:Int))
 then False
 else (g5 (IntKind.wrap IntKind.i64 (IntKind.wrap IntKind.i64 ((0:Int)+(↑(List.length (q::a)):Int))+(↑(List.length (r::b)):Int))) (.row 2 0 0 0) (T0) 0 ⟨[], []⟩∧
 (aW Try.prog (fun _=> .none) 0 (T0) (.call ⟨(.builtin .append), #[(.tmp 31),(.tmp 32)], #[42,42]⟩) [(31,(.row 2 0 0 0)),(32,(.vec 2 ([(q)]++a) (tok1)))] (.row 2 1 0 (k)) (T1)∧
 (aW Try.prog (fun _=> .none) 0 (T1) (.call ⟨(.builtin .append), #[(.tmp 31),(.tmp 32)], #[42,42]⟩) [(31,(.row 2 1 0 (k))),(32,(.vec 2 ([(r)]++b) (tok2)))] (y2) (T2)∧
 Q (y2) (T2)))))):=by kernel_rfl
theorem DQ (q:List TV) (a:Bs) (k:Nat) (W:List TV) (tok tok1 tok2:Tok) (T1:VT) (Q:TV→VT→Prop):an Try.prog ae (aw [(l5,nQ (.row 2 0 0 0) ⟨[.row W], []⟩)]) (wj (.row 2 1 0 k) .dead T1 T1) 300 ay 0 l6 [.vec 1 [[.vec 2 (q::a) tok1], [.vec 2 [] tok2]] tok] ⟨[], []⟩ Q=
 (bif decide (IntKind.wrap IntKind.i64 ((0:Int)+(↑(List.length (q::a)):Int))<(0:Int))
 then False
 else (bif decide (IntKind.wrap IntKind.i64 (IntKind.wrap IntKind.i64 ((0:Int)+(↑(List.length (q::a)):Int))+(↑(0:Nat):Int))<(0:Int))
 then False
 else (g5 (IntKind.wrap IntKind.i64 (IntKind.wrap IntKind.i64 ((0:Int)+(↑(List.length (q::a)):Int))+(↑(0:Nat):Int))) (.row 2 0 0 0) ⟨[(.row (W))], []⟩ 0 ⟨[], []⟩∧
 (aW Try.prog (fun _=> .none) 0 ⟨[(.row (W))], []⟩ (.call ⟨(.builtin .append), #[(.tmp 31),(.tmp 32)], #[42,42]⟩) [(31,(.row 2 0 0 0)),(32,(.vec 2 ([(q)]++a) (tok1)))] (.row 2 1 0 (k)) (T1)∧
 Q (.row 2 1 0 (k)) (T1))))):=by kernel_rfl
theorem DR (q:List TV) (a:Bs) (k:Nat) (W:List TV) (tok tok1 tok2:Tok) (T1:VT) (Q:TV→VT→Prop):an Try.prog ae (aw [(l5,nQ (.row 2 0 0 0) ⟨[.row W], []⟩)]) (wj (.row 2 1 0 k) .dead T1 T1) 300 ay 0 l6 [.vec 1 [[.vec 2 [] tok1], [.vec 2 (q::a) tok2]] tok] ⟨[], []⟩ Q=
 (bif decide (IntKind.wrap IntKind.i64 (IntKind.wrap IntKind.i64 ((0:Int)+(↑(0:Nat):Int))+(↑(List.length (q::a)):Int))<(0:Int))
 then False
 else (g5 (IntKind.wrap IntKind.i64 (IntKind.wrap IntKind.i64 ((0:Int)+(↑(0:Nat):Int))+(↑(List.length (q::a)):Int))) (.row 2 0 0 0) ⟨[(.row (W))], []⟩ 0 ⟨[], []⟩∧
 (aW Try.prog (fun _=> .none) 0 ⟨[(.row (W))], []⟩ (.call ⟨(.builtin .append), #[(.tmp 31),(.tmp 32)], #[42,42]⟩) [(31,(.row 2 0 0 0)),(32,(.vec 2 ([(q)]++a) (tok2)))] (.row 2 1 0 (k)) (T1)∧
 Q (.row 2 1 0 (k)) (T1)))):=by kernel_rfl
theorem DS (tok tok1 tok2:Tok) (Q:TV→VT→Prop):an Try.prog ae (aw [(l5,nQ (.val (.slice none 0 0)) ⟨[], []⟩)]) aF 300 ay 0 l6 [.vec 1 [[.vec 2 [] tok1], [.vec 2 [] tok2]] tok] ⟨[], []⟩ Q=
 (g5 0 (.val (.slice .none 0 0)) ⟨[], []⟩ 0 ⟨[], []⟩∧
 Q (.val (.slice .none 0 0)) ⟨[], []⟩):=by kernel_rfl
theorem FG (l:Bs) (ok:Bool) (Q:TV→VT→Prop):an Try.prog ae bc aF 300 (Gk l ok (ar Try.prog jD 0)) 0 jD [.vec 2 l .none, .fn (.func 91) [] [.ptr 0 0]] ma Q=
 ((ar Try.prog jD (0:Nat)=ar Try.prog jD (0:Nat))∧
 (((@Eq (Option Nat) .none .none)∧
 ((@Eq (Nat) 0 0)∧
 ((@Eq (List Nat) [] [])∧
 (True  ∧
 ((@Eq (VT) ⟨[(.cells [(.fn (.func 64) [] [])])], []⟩ ⟨[(.cells [(.fn (.func 64) [] [])])], []⟩)∧
 ((@Eq (Bool) true true)∧
 (@Eq (List TV) [(.vec 2 (l) .none),(.fn (.func 91) [] [(.ptr 0 0)]),(.val (.int .i64 0)),(.val (.int .i64 ((↑(List.length l):Int)))),(.val (.int .i64 0))] [(.vec 2 (l) .none),(.fn (.func 91) [] [(.ptr 0 0)]),(.val (.int .i64 0)),(.val (.int .i64 ((↑(List.length l):Int)))),(.val (.int .i64 0))])))))))∧
 (∀z:Nat,(∀a:Int,(∀n:Int,(bif ok
 then Q (.val (.int .i64 (-1))) ⟨[(.cells [(.fn (.func 64) [] [])])], []⟩
 else Q (.val (.int .i64 ((↑z:Int)))) ⟨[(.cells [(.fn (.func 64) [] [])]),(.cells [(.val (.int .u32 (a))),(.val (.int .i64 (n)))])], []⟩)))))):=by kernel_rfl
theorem x8 (l:Bs) (a n:Int) (j:Nat) (Q:Exit→List TV→VT→List Nat→Nat→Prop):vx Try.prog ae (aw [(sL,uK)]) (aV [(999999, .dead,none),(14, .elt [.val (.int .u32 a), .val (.int .i64 n)],none)]) 300 ay none 0 (cp Try.prog jD 0) (aq 19 uM (qG l 0 j)) ma [] (cQ uM Q)=
 (bif decide ((↑j:Int)<(↑(List.length l):Int))
 then (aU Try.prog (fun _=> .none) (.indexAddr 42 (.tmp 12) (.tmp 13)) [(12,(.vec 2 (l) .none)),(13,(.val (.int .i64 ((↑j:Int)))))] (.elt [(.val (.int .u32 (a))),(.val (.int .i64 (n)))])∧
 (bif !fV a n
 then Q .ret [(.vec 2 (l) .none),(.fn (.func 91) [] [(.ptr 0 0)]),(.val (.int .i64 ((↑j:Int)))),(.val (.int .i64 ((↑(List.length l):Int)))),(.val (.int .i64 ((↑j:Int))))] ⟨[(.cells [(.fn (.func 64) [] [])]),(.cells [(.val (.int .u32 (a))),(.val (.int .i64 (n)))])], []⟩ [] 19
 else Q .normal [(.vec 2 (l) .none),(.fn (.func 91) [] [(.ptr 0 0)]),(.val (.int .i64 0)),(.val (.int .i64 ((↑(List.length l):Int)))),(.val (.int .i64 (IntKind.wrap IntKind.i64 ((↑j:Int)+(1:Int)))))] ⟨[(.cells [(.fn (.func 64) [] [])]),(.cells [(.val (.int .u32 (a))),(.val (.int .i64 (n)))])], []⟩ [] 19))
 else Q (.exit 0) [(.vec 2 (l) .none),(.fn (.func 91) [] [(.ptr 0 0)]),(.val (.int .i64 0)),(.val (.int .i64 ((↑(List.length l):Int)))),(.val (.int .i64 ((↑j:Int))))] ⟨[(.cells [(.fn (.func 64) [] [])])], []⟩ [] 19):=by kernel_rfl
theorem DT (l:Bs) (Q:TV→VT→Prop):an Try.prog ae (aw [(jD,An)]) aF 300 ay 0 sM [.vec 2 l .none, .fn (.func 91) [] [.ptr 0 0]] ma Q=
 ((((@Eq (Bool) true true)∧
 (@Eq (Option VO) (.some (.cells [(.fn (.func 64) [] [])])) (.some (.cells [(.fn (.func 64) [] [])]))))∧
 wk (l))∧
 (bif gR l
 then (∀z:Nat,Q (.val (.bool true)) ⟨[(.cells [(.fn (.func 64) [] [])])], []⟩)
 else Q (.val (.bool false)) ⟨[(.cells [(.fn (.func 64) [] [])])], []⟩)):=by kernel_rfl
theorem DU (a b:Bs) (tok tok1 tok2:Tok) (Q:TV→VT→Prop):an Try.prog ae (aw [(l6,wm),(sM,wl)]) aF 300 ay 0 sN [nR, .vec 1 [[.vec 2 a tok1], [.vec 2 b tok2]] tok] ⟨[], []⟩ Q=
 ((l7 (a)∧
 l7 (b))∧
 ((((@Eq (Bool) true true)∧
 (@Eq (Option VO) (.some (.cells [(.fn (.func 64) [] [])])) (.some (.cells [(.fn (.func 64) [] [])]))))∧
 wk (a++b))∧
 Q (.val (.bool (!gR (a++b)))) ⟨[(.cells [(.fn (.func 64) [] [])])], []⟩)):=by kernel_rfl
theorem FH (w p n:Bs) (o h m:Int) (hm ok ok2:Bool) (Q:TV→VT→Prop):an Try.prog ae (aw [(sN,wo),(oW,qD ok),(nm,uL ok2)]) (aV [(999998, .dead,none)]) 300 ay 0 Gi [.agg [.vec 2 w .none, .val (.int .i64 o), .vec 1 p .none, .val (.int .u32 h), .val (.int .i64 m), .val (.bool hm), .vec 2 n .none]] ⟨[], []⟩ Q=
 ((l7 (w)∧
 l7 (n))∧
 (bif !!gR (w++n)
 then Q (.val (.bool false)) ⟨[(.cells [(.vec 2 (w) .none),(.val (.int .i64 (o))),(.vec 1 (p) .none),(.val (.int .u32 (h))),(.val (.int .i64 (m))),(.val (.bool (hm))),(.vec 2 (n) .none)])], []⟩
 else (bif decide ((↑(List.length n):Int)>(0:Int))
 then (wh [(.val (.int .i64 (o))),(.vec 1 (p) .none),(.val (.int .u32 (h))),(.val (.int .i64 (m))),(.val (.bool (hm)))] (ok)∧
 Q (.val (.bool (ok))) ⟨[(.cells [(.vec 2 (w) .none),(.val (.int .i64 (o))),(.vec 1 (p) .none),(.val (.int .u32 (h))),(.val (.int .i64 (m))),(.val (.bool (hm))),(.vec 2 (n) .none)])], []⟩)
 else (Al [(.val (.int .i64 (o))),(.vec 1 (p) .none),(.val (.int .u32 (h))),(.val (.int .i64 (m))),(.val (.bool (hm)))] [(.val (.int .i64 0)),(.val (.slice .none 0 0)),(.val (.int .u32 0)),(.val (.int .i64 0)),(.val (.bool false))] (ok2)∧
 Q (.val (.bool (ok2))) ⟨[(.cells [(.vec 2 (w) .none),(.val (.int .i64 (o))),(.vec 1 (p) .none),(.val (.int .u32 (h))),(.val (.int .i64 (m))),(.val (.bool (hm))),(.vec 2 (n) .none)])], []⟩)))):=by kernel_rfl
theorem FI (b:Bs) (v:Bs) (e:Nat) (Q:TV→VT→Prop):an Try.prog ae (aw [(iJ,sS .i64 2)]) (aV [(7, .vec 1 v (.tail 0 e),some fun T=>{T with tails:= [(e,1,false)]})]) 300 ay 0 sO [.vec 1 b .none] ⟨[], []⟩ Q=
 ((@Eq (IntKind) .i64 .i64)∧
 (dS ((↑(List.length b):Int)) 2∧
 (aW Try.prog (fun _=> .none) 0 ⟨[], [(0,(1,false))]⟩ (.call ⟨(.builtin .append), #[(.tmp 5),(.tmp 6)], #[108,108]⟩) [(5,(.vec 1 (aM (2:Int) (↑(List.length b):Int)) (.tail 0 0))),(6,(.vec 1 (b) .none))] (.vec 1 (v) (.tail 0 (e))) ⟨[], [((e),(1,false))]⟩∧
 Q (.vec 1 (v) (.tail 0 (e))) ⟨[], [((e),(1,false))]⟩))):=by kernel_rfl
theorem DV (v:Bs) (e:Nat) (Q:TV→VT→Prop):an Try.prog ae (aw [(iJ,sS .i64 2)]) (aV [(7, .vec 1 v (.tail 0 e),some fun T=>{T with tails:= [(e,1,false)]})]) 300 ay 0 sO [.val (.slice none 0 0)] ⟨[], []⟩ Q=
 ((@Eq (IntKind) .i64 .i64)∧
 (dS 0 2∧
 (aW Try.prog (fun _=> .none) 0 ⟨[], [(0,(1,false))]⟩ (.call ⟨(.builtin .append), #[(.tmp 5),(.tmp 6)], #[108,108]⟩) [(5,(.vec 1 (aM (2:Int) (↑(0:Nat):Int)) (.tail 0 0))),(6,(.val (.slice .none 0 0)))] (.vec 1 (v) (.tail 0 (e))) ⟨[], [((e),(1,false))]⟩∧
 Q (.vec 1 (v) (.tail 0 (e))) ⟨[], [((e),(1,false))]⟩))):=by kernel_rfl
theorem FJ (w p n v:Bs) (o h m:Int) (hm:Bool) (Q:TV→VT→Prop):an Try.prog ae (aw [(xT,A3 v),(iK,A4),(sO,A5),(uI,wq)]) (aV [(999998, .dead,none)]) 300 ay 0 Gj [.agg [.vec 2 w .none, .val (.int .i64 o), .vec 1 p .none, .val (.int .u32 h), .val (.int .i64 m), .val (.bool hm), .vec 2 n .none]] ⟨[], []⟩ Q=
 (bif decide ((↑(List.length n):Int)>(0:Int))
 then (DO [(.val (.int .i64 (o))),(.vec 1 (p) .none),(.val (.int .u32 (h))),(.val (.int .i64 (m))),(.val (.bool (hm)))] (v)∧
 (sQ (w)∧
 (((@Eq (Option TV) (.some (.vec 2 (n) .none)) (.some (.vec 2 (n) .none)))∧
 ((@Eq (Option TV) (.some (.vec 2 (w) .none)) (.some (.vec 2 (w) .none)))∧
 True))∧
 (pP (fB w)∧
 (((@Eq (Option TV) (.some (.vec 2 (n) .none)) (.some (.vec 2 (n) .none)))∧
 ((@Eq (Option TV) (.some (.vec 2 (w) .none)) (.some (.vec 2 (w) .none)))∧
 True))∧
 (pP (v)∧
 (((@Eq (Option TV) (.some (.vec 2 (n) .none)) (.some (.vec 2 (n) .none)))∧
 ((@Eq (Option TV) (.some (.vec 2 (w) .none)) (.some (.vec 2 (w) .none)))∧
 True))∧
 (sQ (n)∧
 (sR (aM (2:Int) (↑(List.length (fB w)):Int)++fB w) (aM (2:Int) (↑(List.length v):Int)++v) (fB n)∧
 Q (.vec 1 (aM (2:Int) (↑(List.length (fB w)):Int)++fB w++(aM (2:Int) (↑(List.length v):Int)++v++fB n)) .none) ⟨[(.cells [(.vec 2 (w) .none),(.val (.int .i64 (o))),(.vec 1 (p) .none),(.val (.int .u32 (h))),(.val (.int .i64 (m))),(.val (.bool (hm))),(.vec 2 (n) .none)])], []⟩)))))))))
 else (sQ (w)∧
 (((@Eq (Option TV) (.some (.vec 2 (n) .none)) (.some (.vec 2 (n) .none)))∧
 ((@Eq (Option TV) (.some (.vec 2 (w) .none)) (.some (.vec 2 (w) .none)))∧
 True))∧
 (pP (fB w)∧
 (((@Eq (Option TV) (.some (.vec 2 (n) .none)) (.some (.vec 2 (n) .none)))∧
 ((@Eq (Option TV) (.some (.vec 2 (w) .none)) (.some (.vec 2 (w) .none)))∧
 True))∧
 (((@Eq (Option TV) (.some (.vec 2 (n) .none)) (.some (.vec 2 (n) .none)))∧
 ((@Eq (Option TV) (.some (.vec 2 (w) .none)) (.some (.vec 2 (w) .none)))∧
 True))∧
 (sQ (n)∧
 (sR (aM (2:Int) (↑(List.length (fB w)):Int)++fB w) (aM (2:Int) (0:Int)) (fB n)∧
 Q (.vec 1 (aM (2:Int) (↑(List.length (fB w)):Int)++fB w++(aM (2:Int) (0:Int)++fB n)) .none) ⟨[(.cells [(.vec 2 (w) .none),(.val (.int .i64 (o))),(.vec 1 (p) .none),(.val (.int .u32 (h))),(.val (.int .i64 (m))),(.val (.bool (hm))),(.vec 2 (n) .none)])], []⟩)))))))):=by kernel_rfl
theorem FL (q r s:List TV) (a b c:Bs) (k k2:Nat) (tok tok1 tok2 tok3:Tok) (y3:TV) (T0 T1 T2 T3:VT) (Q:TV→VT→Prop):an Try.prog ae (aw [(sJ,x6 (.row 1 0 0 0) T0)]) (A1 (.row 1 1 0 k) (.row 1 2 0 k2) y3 T1 T2 T3) 300 ay 0 uI [.vec 1 [[.vec 1 (q::a) tok1], [.vec 1 (r::b) tok2], [.vec 1 (s::c) tok3]] tok] ⟨[], []⟩ Q=
 (bif decide (IntKind.wrap IntKind.i64 ((0:Int)+(↑(List.length (q::a)):Int))<(0:Int))
 then False
 else (bif decide (IntKind.wrap IntKind.i64 (IntKind.wrap IntKind.i64 ((0:Int)+(↑(List.length (q::a)):Int))+(↑(List.length (r::b)):Int))<(0:Int))
 then False
 else (bif decide (IntKind.wrap IntKind.i64 (IntKind.wrap IntKind.i64 (IntKind.wrap IntKind.i64 ((0:Int)+(↑(List.length (q::a)):Int))+(↑(List.length (r::b)):Int))+(↑(List.length (s::c)):Int))<(0:Int))
 then False
 else (sK (IntKind.wrap IntKind.i64 (IntKind.wrap IntKind.i64 (IntKind.wrap IntKind.i64 ((0:Int)+(↑(List.length (q::a)):Int))+(↑(List.length (r::b)):Int))+(↑(List.length (s::c)):Int))) (.row 1 0 0 0) (T0) 0 ⟨[], []⟩∧
 (aW Try.prog (fun _=> .none) 0 (T0) (.call ⟨(.builtin .append), #[(.tmp 31),(.tmp 32)], #[108,108]⟩) [(31,(.row 1 0 0 0)),(32,(.vec 1 ([(q)]++a) (tok1)))] (.row 1 1 0 (k)) (T1)∧
 (aW Try.prog (fun _=> .none) 0 (T1) (.call ⟨(.builtin .append), #[(.tmp 31),(.tmp 32)], #[108,108]⟩) [(31,(.row 1 1 0 (k))),(32,(.vec 1 ([(r)]++b) (tok2)))] (.row 1 2 0 (k2)) (T2)∧
 (aW Try.prog (fun _=> .none) 0 (T2) (.call ⟨(.builtin .append), #[(.tmp 31),(.tmp 32)], #[108,108]⟩) [(31,(.row 1 2 0 (k2))),(32,(.vec 1 ([(s)]++c) (tok3)))] (y3) (T3)∧
 Q (y3) (T3)))))))):=by kernel_rfl
theorem DW (q r:List TV) (a b:Bs) (k k2:Nat) (tok tok1 tok2 tok3:Tok) (y3:TV) (T0 T1 T2 T3:VT) (Q:TV→VT→Prop):an Try.prog ae (aw [(sJ,x6 (.row 1 0 0 0) T0)]) (A1 (.row 1 1 0 k) (.row 1 2 0 k2) y3 T1 T2 T3) 300 ay 0 uI [.vec 1 [[.vec 1 (q::a) tok1], [.vec 1 (r::b) tok2], [.vec 1 [] tok3]] tok] ⟨[], []⟩ Q=
 (bif decide (IntKind.wrap IntKind.i64 ((0:Int)+(↑(List.length (q::a)):Int))<(0:Int))
 then False
 else (bif decide (IntKind.wrap IntKind.i64 (IntKind.wrap IntKind.i64 ((0:Int)+(↑(List.length (q::a)):Int))+(↑(List.length (r::b)):Int))<(0:Int))
 then False
 else (bif decide (IntKind.wrap IntKind.i64 (IntKind.wrap IntKind.i64 (IntKind.wrap IntKind.i64 ((0:Int)+(↑(List.length (q::a)):Int))+(↑(List.length (r::b)):Int))+(↑(0:Nat):Int))<(0:Int))
 then False
 else (sK (IntKind.wrap IntKind.i64 (IntKind.wrap IntKind.i64 (IntKind.wrap IntKind.i64 ((0:Int)+(↑(List.length (q::a)):Int))+(↑(List.length (r::b)):Int))+(↑(0:Nat):Int))) (.row 1 0 0 0) (T0) 0 ⟨[], []⟩∧
 (aW Try.prog (fun _=> .none) 0 (T0) (.call ⟨(.builtin .append), #[(.tmp 31),(.tmp 32)], #[108,108]⟩) [(31,(.row 1 0 0 0)),(32,(.vec 1 ([(q)]++a) (tok1)))] (.row 1 1 0 (k)) (T1)∧
 (aW Try.prog (fun _=> .none) 0 (T1) (.call ⟨(.builtin .append), #[(.tmp 31),(.tmp 32)], #[108,108]⟩) [(31,(.row 1 1 0 (k))),(32,(.vec 1 ([(r)]++b) (tok2)))] (.row 1 2 0 (k2)) (T2)∧
 Q (.row 1 2 0 (k2)) (T2))))))):=by kernel_rfl
end
--MbI
section
open Go.RowKit

theorem Ap {b:Bs} (hb:IsB b) (hne:b≠ []) (tok:Tok) {n k:Nat} (hk:k≤8):VCx Try.prog ae 0 dz [.vec 1 b tok, .val (.int .u64 n), .val (.int .i64 k)] ⟨[], []⟩ fun x T' =>x= .vec 1 (b++ng k n) (.tail 0 0)∧T' =⟨[], [(0,1,false)]⟩:=by
  obtain ⟨⟨l,rfl,hl⟩,hlen⟩:=hb
  have hne2:l≠ []:=fun h=>hne (by rw [h];rfl)
  have hll:(bV l).length=l.length:=by simp [bV]
  rw [hll] at hlen
  have hvs:(dM l++fh (cR n k)).length=l.length+k:=by simp [dM,fh,cR]
  have h:=VCx.ofOwnT (P:=Try.prog) (G:=ae) (f:=dz) (xs:= [.vec 1 (bV l) tok, .val (.int .u64 n), .val (.int .i64 k)]) (ty:=5) (vs:=dM l++fh (cR n k)) (fun v hv=> ?_) (by rw [hvs];unfold maxLen;omega) (fun g w us hx=> ?_)
  · refine h.mono ?_
    rintro x T' ⟨rfl,rfl⟩
    refine ⟨?_,rfl⟩
    rw [List.map_append,←gm,oU,←gm];rfl
  · rcases List.mem_append.1 hv with hv | hv
    · obtain ⟨z,_,rfl⟩:=List.mem_map.1 hv;rfl
    · obtain ⟨z,_,rfl⟩:=List.mem_map.1 hv;rfl
  · match us,hx.1 with
    | [v,u1,u2],_=>
      have hv:=hx.2 0 _ v rfl rfl
      obtain rfl:=(hx.2 1 _ u1 rfl rfl).val_inv
      obtain rfl:=(hx.2 2 _ u2 rfl rfl).val_inv
      have:=wb v l.length (dM l) (fun u hu=>by obtain ⟨z,_,rfl⟩:=List.mem_map.1 hu;rfl) n k hk (by omega) w (xF hv hne2)
      rw [hvs];exact this
theorem x9 {n k:Nat} (hk:k≤8):VCx Try.prog ae 0 dz [.val (.slice none 0 0), .val (.int .u64 n), .val (.int .i64 k)] ⟨[], []⟩ fun x T' =>x= .vec 1 (ng k n) (.tail 0 0)∧T' =⟨[], [(0,1,false)]⟩:=by
 have hvs:(fh (cR n k)).length=k:=by simp [fh,cR]
 have h:=VCx.ofOwnT (P:=Try.prog) (G:=ae) (f:=dz) (xs:= [.val (.slice none 0 0), .val (.int .u64 n), .val (.int .i64 k)]) (ty:=5) (vs:=fh (cR n k)) (fun v hv=>by obtain ⟨z,_,rfl⟩:=List.mem_map.1 hv;rfl) (by rw [hvs];unfold maxLen;omega) (fun g w us hx=> ?_)
 ·refine h.mono ?_
  rintro x T' ⟨rfl,rfl⟩
  refine ⟨?_,rfl⟩
  rw [oU,←gm];rfl
 ·match us,hx.1 with
  | [v,u1,u2],_=>
   obtain rfl:=(hx.2 0 _ v rfl rfl).val_inv
   obtain rfl:=(hx.2 1 _ u1 rfl rfl).val_inv
   obtain rfl:=(hx.2 2 _ u2 rfl rfl).val_inv
   have:=wb (.slice none 0 0) 0 [] (by simp) n k hk (by omega) w (Rd.nil w 1)
   rw [hvs]
   simpa using this
theorem Aq:∀ro ys T K,oY ro ys T K→VCx Try.prog ae ro dz ys T K:=by
 intro ro ys T K hw
 unfold oY at hw
 split at hw
 ·rename_i x n k
  split at hw
  ·obtain ⟨⟨⟨h1,h1b⟩,h2,h3⟩,hk⟩:=hw
   obtain ⟨n,rfl⟩:=Int.eq_ofNat_of_zero_le h1
   obtain ⟨k,rfl⟩:=Int.eq_ofNat_of_zero_le h2
   have hb:IsB (ng k n):=su (by omega)
   exact VCx.liftTail am (x9 (n:=n) (k:=k) (by omega)) (by simp only [av,TV.ren]) (fun f g=>hb.ren f g) hk
  ·rename_i b tok
   obtain ⟨⟨⟨⟨h1,h1b⟩,h2,h3⟩,hb,hne⟩,hk⟩:=hw
   obtain ⟨n,rfl⟩:=Int.eq_ofNat_of_zero_le h1
   obtain ⟨k,rfl⟩:=Int.eq_ofNat_of_zero_le h2
   exact VCx.liftTail am (Ap (n:=n) (k:=k) hb hne (tok.ren (aP []) (aP [])) (by omega)) (by simp only [av,TV.ren,hb.ren]) (fun f g=>pM hb (cC (k:=((k:Nat):Int)) ((n:Nat):Int) h3) f g) hk
  ·exact hw.elim
 ·exact hw.elim
theorem ya:aZ Try.prog ae (aw [(dz,oY)]):=az fun p hp=>by obtain rfl:=List.mem_singleton.1 hp;exact Aq
theorem Ar {f:FuncId} {k:Int} (h0:∀{n:Int},0≤n→n≤1000000000000000→VCx Try.prog ae 0 f [.val (.slice none 0 0), .val (.int .i64 n)] ⟨[], []⟩ fun x T' =>x= .vec 1 (aM k n) (.tail 0 0)∧T' =⟨[], [(0,1,false)]⟩)
  (h1:∀{n:Int} {b:Bs} (tok:Tok),0≤n→n≤1000000000000000→IsB b→b≠ []→VCx Try.prog ae 0 f [.vec 1 b tok, .val (.int .i64 n)] ⟨[], []⟩ fun x T' =>x= .vec 1 (b++aM k n) (.tail 0 0)∧T' =⟨[], [(0,1,false)]⟩):
  ∀ro ys T K,sS .i64 k ro ys T K→VCx Try.prog ae ro f ys T K:=by
 intro ro ys T K hw
 unfold sS at hw
 split at hw
 ·rename_i x q n
  obtain ⟨rfl,hw⟩:=hw
  split at hw
  ·obtain ⟨⟨⟨g1,hn⟩,g2,g3⟩,hk⟩:=hw
   exact VCx.liftTail am (h0 g1 hn) (by simp only [av,TV.ren]) (fun f g=>(cC n g3).ren f g) hk
  ·rename_i b tok
   obtain ⟨⟨⟨⟨g1,hn⟩,g2,g3⟩,hb,hne⟩,hk⟩:=hw
   exact VCx.liftTail am (h1 (tok.ren (aP []) (aP [])) g1 hn hb hne) (by simp only [av,TV.ren,hb.ren]) (fun f g=>pM hb (cC n g3) f g) hk
  ·exact hw.elim
 ·exact hw.elim
theorem uN:∀ro ys T K,sS .i64 2 ro ys T K→VCx Try.prog ae ro iJ ys T K:=Ar
 (fun g hn=>ah ac aa ya ag (Ao _ _) (by rw [je g hn];exact ⟨⟨⟨g,hn⟩,by decide,by decide⟩,rfl,rfl⟩))
 (fun tok g hn hb hne=>ah ac aa ya ag (Cd _ tok _ _) (by rw [je g hn];exact ⟨⟨⟨⟨g,hn⟩,by decide,by decide⟩,hb,hne⟩,rfl,rfl⟩))
theorem DX:∀ro ys T K,Am ro ys T K→VCx Try.prog ae ro nM ys T K:=by
 intro ro ys T K hw
 unfold Am at hw
 split at hw
 ·rename_i a n
  have hm:nh (oX n):=by unfold oX nh;split<;>split<;>omega
  exact VCx.liftPure am (VCx.keepQ 0 0 (Nat.le_refl _) (Nat.le_refl _) (ah ac aa (az fun p hp=>by obtain rfl:=List.mem_singleton.1 hp;exact ut) ag (xK a n _) ⟨hm,rfl,rfl⟩)) rfl (fun _ _=>rfl) hw
 ·exact hw.elim
theorem GD (a n c p:Int):bb BinOp.eql (ak (.agg #[.int .u32 a, .int .i64 n]) (.agg #[.int .u32 c, .int .i64 p]))=(decide (a=c)&&decide (n=p)):=by
 simp [bb,ak,cO,bZ,Bool.beq_eq_decide_eq]
theorem DY (a n:Int):VCx Try.prog ae 0 sL [.agg [.val (.int .u32 a), .val (.int .i64 n)]] ⟨[], []⟩ fun x T' =>x= .val (.bool (fV a n))∧T' =⟨[], []⟩:=
 VCx.keepQ 0 0 (Nat.le_refl _) (Nat.le_refl _) (ah ac aa (az fun p hp=>by obtain rfl:=List.mem_singleton.1 hp;exact DX) ag (FF a n _) ⟨⟨rfl,rfl,trivial⟩,by
  refine ⟨?_,by simp [VT.keep]⟩
  show TV.val (.bool _)=_
  rw [show bb BinOp.eql (ak ((fun vs=>Value.agg (List.toArray vs)) ((fun x=>Value.int IntKind.u32 a::x) ((fun x=>Value.int IntKind.i64 n::x) []))) ((fun vs=>Value.agg (List.toArray vs)) ((fun x=>Value.int IntKind.u32 (sP a n)::x) ((fun x=>Value.int IntKind.i64 (oX n)::x) []))))=_ from GD a n (sP a n) (oX n)]
  rfl⟩)
theorem yb:∀ro ys T K,uK ro ys T K→VCx Try.prog ae ro sL ys T K:=by
 intro ro ys T K hw
 unfold uK at hw
 split at hw
 ·exact VCx.liftPure am (DY _ _) rfl (fun _ _=>rfl) hw
 ·exact hw.elim
theorem yc {a n:Int} (h:fV a n=true):sy a n:=by
 unfold fV at h
 simp only [Bool.and_eq_true,decide_eq_true_eq] at h
 obtain ⟨h1,h2⟩:=h
 have hm:nh n:=by unfold oX at h2;unfold nh;split at h2<;>split at h2<;>omega
 refine ⟨?_,hm, ?_⟩
 ·rw [h1]
  unfold sP AR
  simp only [IntKind.wrap,IntKind.bits,IntKind.signed]
  simp
  omega
 ·unfold sP at h1
  rw [←h2] at h1
  exact h1.symm
theorem mU (l:List (Int × Int)):A0 (aD l)=l:=by
 unfold A0 aD
 rw [List.map_map]
 exact (List.map_congr_left fun p _=>rfl).trans (List.map_id l)
theorem cc (l:List (Int × Int)):(aD l).length=l.length:=List.length_map _
theorem uO (l:List (Int × Int)):gR (aD l)= !l.all fun p=>fV p.1 p.2:=by unfold gR;rw [mU]
theorem Cf {l:List (Int × Int)} (hn:l.length≤2000000):gO Try.prog ae (Gk (aD l) (!gR (aD l)) (ar Try.prog jD 0)):=bw fun p hp=>by
  obtain rfl:=List.mem_singleton.1 hp
  have hS:aZ Try.prog ae (aw [(sL,uK)]):=az fun p hp=>by obtain rfl:=List.mem_singleton.1 hp;exact yb
  rw [uO,Bool.not_not]
  refine bL fun K hK=> ?_
  refine di (f:=jD) (id:=0) (by kernel_rfl) 19 uM (fun j:Nat=>l.length-j) (fun j:Nat=>qG (aD l) 0 j) (fun _=>ma) (fun j=>j≤l.length∧((l.take j).all fun p=>fV p.1 p.2)=true) 1 0 (fun _ _=>⟨Nat.le_refl _,Nat.le_refl _⟩)
    (fun e vs T=>(e= .normal∧(l.all fun p=>fV p.1 p.2)=true∧vs=qG (aD l) 0 (aD l).length∧T=ma)∨(e= .ret∧(l.all fun p=>fV p.1 p.2)=false∧∃(z:Nat) (a n:Int),vs=qG (aD l) z z∧T=⟨[.cells [nR], .cells [.val (.int .u32 a), .val (.int .i64 n)]], []⟩)) (fun j hj=> ?_) 0 ⟨Nat.zero_le _,rfl⟩ K ?_
  · obtain ⟨hj,hall⟩:=hj
    by_cases hlt:j<l.length
    · have hat:(aD l)[((j:Nat):Int).toNat]?=some (cH l[j]):=by rw [Int.toNat_natCast];show (l.map _)[j]?=_;rw [List.getElem?_map,List.getElem?_eq_getElem hlt];rfl
      refine bF ac aa hS ag (x8 (aD l) l[j].1 l[j].2 j _) ?_
      refine bp (decide_eq_true (by rw [cc];omega)) ⟨sB rfl rfl (by omega) hat, ?_⟩
      cases hg:fV l[j].1 l[j].2
      · refine bp rfl ⟨rfl,rfl, .inr ⟨rfl, ?_,j,l[j].1,l[j].2,rfl,rfl⟩⟩
        cases hc:l.all fun p=>fV p.1 p.2
        · rfl
        · have:=List.all_eq_true.1 hc _ (List.getElem_mem hlt);rw [hg] at this;cases this
      · refine aX rfl ⟨rfl,rfl,j+1,⟨hlt, ?_⟩,by show l.length-(j+1)<l.length-j;omega, .inr ⟨rfl, ?_⟩⟩
        · rw [List.take_add_one,List.getElem?_eq_getElem hlt,List.all_append,hall]
          simp only [Option.toList_some,List.all_cons,List.all_nil,Bool.and_true,Bool.true_and]
          exact hg
        · show av _ _ _=_
          rw [rc hlt hn]
          simp only [av,TV.ren,Tok.ren,show bf (au 1) (au 0) (aD l)=aD l from iH _ _ l]
          rfl
    · have hj2:j=l.length:=by omega
      subst hj2
      rw [List.take_length] at hall
      refine bF ac aa hS ag (x8 (aD l) 0 0 l.length _) ?_
      exact aX (decide_eq_false (by rw [cc];omega)) ⟨rfl,rfl, .inl ⟨rfl,hall,by simp only [qG,cc],rfl⟩⟩
  · rintro e vs T (⟨rfl,h1,rfl,rfl⟩ | ⟨rfl,h1,z,a,n,rfl,rfl⟩)
    · have:=hK 0 0 0;rw [h1] at this;exact this
    · have:=hK z a n;rw [h1] at this;exact this
theorem DZ {l:List (Int × Int)} (hn:l.length≤2000000):VCx Try.prog ae 0 jD [.vec 2 (aD l) .none, .fn (.func DL) [] [.ptr 0 0]] ma fun x T' =>(bif gR (aD l) then ∃z:Nat,x= .val (.int .i64 (Int.ofNat z)) else x= .val (.int .i64 (-1)))∧T' =ma:=by
 refine VCx.keepQ 1 0 (Nat.le_refl _) (Nat.le_refl _) (ah ac aa ai (Cf hn) (FG (aD l) (!gR (aD l)) _) ⟨rfl,⟨rfl,rfl,rfl,trivial,rfl,rfl,rfl⟩,fun z a n=> ?_⟩)
 cases h:gR (aD l)
 ·exact ⟨rfl,rfl⟩
 ·exact ⟨⟨z,rfl⟩,rfl⟩
theorem cL (f g:Nat→Option Nat) (l:List (Int × Int)):bf f g (aD l)=aD l:=iH f g l
theorem Cg:∀ro ys T K,An ro ys T K→VCx Try.prog ae ro jD ys T K:=by
 intro ro ys T K hw
 unfold An at hw
 split at hw
 ·rename_i l tok i
  obtain ⟨⟨⟨hro,ho⟩,p,rfl,hp⟩,hk⟩:=hw
  refine VCx.atKeep am (Nat.le_of_ble_eq_true hro) ho rfl (fun _ _=>rfl) ?_ (DZ hp) fun x hx=> ?_
  ·simp only [av,TV.ren,cL]
   exact ⟨.vec _ _ _,by simp [aP];exact .refl _,trivial⟩
  ·cases hb:gR (aD p)<;>rw [hb] at hx hk
   ·subst hx;exact ⟨fun _ _=>rfl,hk⟩
   ·obtain ⟨z,rfl⟩:=hx;exact ⟨fun _ _=>rfl,hk z⟩
 ·exact hw.elim
theorem Ci {l:List (Int × Int)} (hn:l.length≤2000000):VCx Try.prog ae 0 sM [.vec 2 (aD l) .none, .fn (.func DL) [] [.ptr 0 0]] ma fun x T' =>x= .val (.bool (gR (aD l)))∧T' =ma:=by
 refine VCx.keepQ 1 0 (Nat.le_refl _) (Nat.le_refl _) (ah ac aa (az fun p hp=>by obtain rfl:=List.mem_singleton.1 hp;exact Cg) ag (DT (aD l) _) ⟨⟨⟨rfl,rfl⟩,l,rfl,hn⟩, ?_⟩)
 cases h:gR (aD l)
 ·exact ⟨rfl,rfl⟩
 ·exact fun z=>⟨rfl,rfl⟩
theorem Cj:∀ro ys T K,wl ro ys T K→VCx Try.prog ae ro sM ys T K:=by
 intro ro ys T K hw
 unfold wl at hw
 split at hw
 ·rename_i l tok i
  obtain ⟨⟨⟨hro,ho⟩,p,rfl,hp⟩,hk⟩:=hw
  refine VCx.atKeep am (Nat.le_of_ble_eq_true hro) ho rfl (fun _ _=>rfl) ?_ (Ci hp) fun x hx=> ?_
  ·simp only [av,TV.ren,cL]
   exact ⟨.vec _ _ _,by simp [aP];exact .refl _,trivial⟩
  ·subst hx;exact ⟨fun _ _=>rfl,hk⟩
 ·exact hw.elim
def zP (n:Nat):List TV:=(Builtin.zeroCells (Value.agg #[.int .u32 0, .int .i64 0]).cells n).toList.map .val
theorem D0 (f g:Nat→Option Nat) (n:Nat):av f g (zP n)=zP n:=lr _ _ _
theorem Ck {n:Int} (h0:0<n) (h1:n≤2000000):VCx Try.prog ae 0 l5 [.val (.slice none 0 0), .val (.int .i64 n)] ⟨[], []⟩ fun x T1=>x= .row 2 0 0 0∧T1=⟨[.row (zP n.toNat)], []⟩:=by
 obtain ⟨inf,i1,i2,i3,i4⟩:=nN
 refine ah ac aa ai ag (x7 n n.toNat (zP n.toNat) ⟨[], []⟩ _) ?_
 have e:IntKind.wrap IntKind.i64 (n-IntKind.wrap IntKind.i64 (((0:Nat):Int)-((0:Nat):Int)))=n:=by
  rw [show IntKind.wrap IntKind.i64 (((0:Nat):Int)-((0:Nat):Int))=0 from rfl,Int.sub_zero,cj (by omega) (by omega)]
 refine aX (decide_eq_false (by omega)) (bp (decide_eq_true (by rw [e];exact h0)) ⟨?_,rfl,rfl⟩)
 rw [e]
 have hb:n.toNat*(inf.bytes+1)≤140737488355328:=by
  have:=Nat.mul_le_mul (show n.toNat≤2000000 by omega) i3
  omega
 have h:=oS (P:=Try.prog) (G:=ae) (ro:=0) (T:=⟨[], []⟩) (t:=42) (tn:=3) (s:= .tmp 20) (x:= .tmp 21) (l:= [(20, .val (.slice none 0 0)),(21, .val (.int .i64 n))]) (inf:=inf) (m:=n) Try.underlying42 Try.underlying3 i1 i4 (by rw [i2];rfl) (by rw [i2];decide) rfl rfl rfl h0 hb
 rw [i2] at h
 exact h
theorem sU {n:Int} (h0:0<n) (h1:n≤2000000) (ro:Nat) (T:VT):g5 n (.row 2 T.objs.length 0 0) {T with objs:=T.objs++ [.row (zP n.toNat)]} ro T:=by
 unfold g5
 refine (VCx.lift (T:=T) [] [] am List.nodup_nil List.nodup_nil (by simp) (by simp) (by simp) rfl (by rw [VT.give_nil];exact Ck h0 h1) (fun _ _ _=>⟨Nat.zero_le _,Nat.zero_le _⟩)).mono ?_
 rintro z T' ⟨x,T'',⟨rfl,rfl⟩,rfl,rfl⟩
 refine ⟨by simp [TV.ren,aI], ?_⟩
 rw [VT.back_nil]
 simp [VO.ren,D0]
theorem Cl (ro:Nat) (T:VT):g5 0 (.val (.slice none 0 0)) T ro T:=by
 unfold g5
 exact VCx.liftPure (y:= .val (.slice none 0 0)) am (ah ac aa ai ag (x7 0 0 [] ⟨[], []⟩ _) ⟨rfl,rfl⟩) rfl (fun _ _=>rfl) ⟨rfl,rfl⟩
theorem re {gy:TV} {gT:VT}:aZ Try.prog ae (aw [(l5,nQ gy gT)]):=az fun p hp=>by
 obtain rfl:=List.mem_singleton.1 hp
 intro ro ys T K hw
 replace hw:nQ gy gT ro ys T K:=hw
 unfold nQ at hw
 split at hw
 ·obtain ⟨h,hk⟩:=hw
  exact VCx.mono h fun x T1 ⟨h1,h2⟩=>by subst h1 h2;exact hk
 ·exact hw.elim
theorem Gl {e:TypeId} {t:TypeId} {inf:TypeInfo} {z:Value} {sz:Nat} (ht:Try.prog.underlying t=some (.slice e)) (hi:Try.prog.info? e=some inf) (hs:inf.size=sz) (hz:inf.zero=some z) (hzs:z.cells.size=sz) (hz1:z.cells.toList.all Value.oneCell' =true) (hbd:inf.bytes+1≤1000)
    {T:VT} {id n m:Nat} {cs cs' :List TV} {q:List TV} {a:Bs} {tok:Tok} (ho:T.objs[id]?=some (.row cs)) (hn:n*sz≤cs.length) (hb:n+a.length+1≤3000000) (hm:m=n+(a.length+1)) (hcs:cs' =cs.take (n*sz)++(q::a).flatten):
    aW Try.prog ae 0 T (.call ⟨.builtin .append, #[.tmp 31, .tmp 32], #[t,t]⟩) [(31, .row sz id 0 n),(32, .vec sz (q::a) tok)] (.row sz T.objs.length 0 m) ((T.kill id).newRow cs'):=by
  subst hm hcs hs
  refine v8 (P:=Try.prog) (G:=ae) (ro:=0) (T:=T) (t:=t) (tx:=t) (s:= .tmp 31) (x:= .tmp 32) (l:= [(31, .row inf.size id 0 n),(32, .vec inf.size (q::a) tok)]) (inf:=inf) (id:=id) (n:=n) (cs:=cs) (q0:=q) (qs:=a) ht hi hz hzs hz1 (by rw [ht];rfl) rfl ho (Nat.zero_le _) hn ?_ ?_
  · show bI T inf.size (.vec inf.size (q::a) tok)=_
    simp [bI]
  · have:=Nat.mul_le_mul (show n+(q::a).length≤3000000 by simp only [List.length_cons];omega) hbd
    omega
theorem A6 {T:VT} {id n m:Nat} {cs cs' :List TV} {q:List TV} {a:Bs} {tok:Tok} (ho:T.objs[id]?=some (.row cs)) (hn:n*2≤cs.length) (hb:n+a.length+1≤3000000) (hm:m=n+(a.length+1)) (hcs:cs' =cs.take (n*2)++(q::a).flatten):
  aW Try.prog ae 0 T (.call ⟨.builtin .append, #[.tmp 31, .tmp 32], #[42,42]⟩) [(31, .row 2 id 0 n),(32, .vec 2 (q::a) tok)] (.row 2 T.objs.length 0 m) ((T.kill id).newRow cs'):=by
 obtain ⟨inf,i1,i2,i3,i4⟩:=nN
 exact Gl Try.underlying42 i1 i2 i4 rfl (by decide) i3 ho hn hb hm hcs
theorem yd {T:VT} {id n m:Nat} {cs cs' :List TV} {q:List TV} {a:Bs} {tok:Tok} (ho:T.objs[id]?=some (.row cs)) (hn:n*1≤cs.length) (hb:n+a.length+1≤3000000) (hm:m=n+(a.length+1)) (hcs:cs' =cs.take (n*1)++(q::a).flatten):
  aW Try.prog ae 0 T (.call ⟨.builtin .append, #[.tmp 31, .tmp 32], #[108,108]⟩) [(31, .row 1 id 0 n),(32, .vec 1 (q::a) tok)] (.row 1 T.objs.length 0 m) ((T.kill id).newRow cs'):=by
 obtain ⟨inf,i1,i2,i3,i4⟩:=iG
 exact Gl Try.underlying108 i1 i2 i4 rfl (by decide) (by omega) ho hn hb hm hcs
theorem wz {m:Nat} (hm:m≤3000000):IntKind.wrap IntKind.i64 ((0:Int)+(m:Int))=(m:Int):=by rw [Int.zero_add,cj (by omega) (by omega)]
theorem wa {a b:Nat} (h:a+b≤3000000):IntKind.wrap IntKind.i64 ((a:Int)+(b:Int))=((a+b:Nat):Int):=by rw [cj (by omega) (by omega)];omega
theorem mc {b:Nat}:decide (((b:Nat):Int)<0)=false:=decide_eq_false (by omega)
theorem uP:∀l:List (Int × Int),(aD l).flatten.length=l.length*2:=fun l=>by
 rw [aY (size:=2) (fun e he=>by obtain ⟨p,_,rfl⟩:=List.mem_map.1 he;rfl),cc]
theorem D3 {a b:List (Int × Int)} {tok tok1 tok2:Tok} (ha:a.length≤100000) (hb:b.length≤100000):VCx Try.prog ae 0 l6 [.vec 1 [[.vec 2 (aD a) tok1], [.vec 2 (aD b) tok2]] tok] ⟨[], []⟩ fun x T' =>x= .vec 2 (aD a++aD b) .none∧T' =⟨[], []⟩:=by
 have hz:∀l:List (Int × Int),∀e∈aD l,e.length=2:=fun l e he=>by obtain ⟨p,_,rfl⟩:=List.mem_map.1 he;rfl
 have hza:∀e∈aD a++aD b,e.length=2:=fun e he=>by rcases List.mem_append.1 he with h | h<;>exact hz _ e h
 have hren:∀f g,bf f g (aD a++aD b)=aD a++aD b:=fun f g=>by rw [br,List.map_append,←br,←br,cL,cL]
 cases a with
 | nil=>
  cases b with
  | nil=>exact VCx.toLe (Q:=fun T' =>T' =⟨[], []⟩) (ah ac aa re ag (DS tok tok1 tok2 _) ⟨Cl _ _, .nil 2,rfl⟩)
  | cons r b=>
   refine VCx.freezeRow hren (ah ac aa re ag (DR (cH r) (aD b) (b.length+1) (zP (b.length+1)) tok tok1 tok2 ⟨[.gone, .row (aD (r::b)).flatten], []⟩ _) ?_)
   have w0:IntKind.wrap IntKind.i64 ((0:Int)+((0:Nat):Int))=((0:Nat):Int):=rfl
   have hlen:(cH r::aD b).length=b.length+1:=by rw [List.length_cons,cc]
   rw [w0,hlen,wa (by simp only [List.length_cons] at hb;omega),Nat.zero_add]
   refine aX mc ⟨sU (n:=((b.length+1:Nat):Int)) (by omega) (by simp only [List.length_cons] at hb;omega) 0 ⟨[], []⟩, ?_,fO rfl hza ?_⟩
   ·exact A6 (q:=cH r) (a:=aD b) (n:=0) (cs:=zP (b.length+1)) rfl (by omega) (by rw [cc];simp only [List.length_cons] at hb;omega) (by rw [cc,Nat.zero_add]) (by rw [Nat.zero_mul,List.take_zero];rfl)
   ·simp [aD]
 | cons q a=>
  have hlen:(cH q::aD a).length=a.length+1:=by rw [List.length_cons,cc]
  cases b with
  | nil=>
   refine VCx.freezeRow hren (ah ac aa re ag (DQ (cH q) (aD a) (a.length+1) (zP (a.length+1)) tok tok1 tok2 ⟨[.gone, .row (aD (q::a)).flatten], []⟩ _) ?_)
   have hb2:a.length+1≤100000:=by simpa using ha
   rw [hlen,wz (by omega),wa (by omega),Nat.add_zero]
   refine aX mc (aX mc ⟨sU (n:=((a.length+1:Nat):Int)) (by omega) (by omega) 0 ⟨[], []⟩, ?_,fO (by simp [aD]) hza ?_⟩)
   ·exact A6 (q:=cH q) (a:=aD a) (n:=0) (cs:=zP (a.length+1)) rfl (by omega) (by rw [cc];omega) (by rw [cc,Nat.zero_add]) (by rw [Nat.zero_mul,List.take_zero];rfl)
   ·simp [aD]
  | cons r b=>
   have hlen2:(cH r::aD b).length=b.length+1:=by rw [List.length_cons,cc]
   have hb2:a.length+1≤100000:=by simpa using ha
   have hb3:b.length+1≤100000:=by simpa using hb
   refine VCx.freezeRow hren (ah ac aa re ag (Ce (cH q) (cH r) (aD a) (aD b) (a.length+1) [] tok tok1 tok2 (.row 2 2 0 ((a.length+1)+(b.length+1))) ⟨[.row (zP ((a.length+1)+(b.length+1)))], []⟩ ⟨[.gone, .row (aD (q::a)).flatten], []⟩ ⟨[.gone, .gone, .row ((aD (q::a)).flatten++(aD (r::b)).flatten)], []⟩ _) ?_)
   rw [hlen,hlen2,wz (by omega),wa (by omega)]
   refine aX mc (aX mc ⟨sU (n:=(((a.length+1)+(b.length+1):Nat):Int)) (by omega) (by omega) 0 ⟨[], []⟩, ?_, ?_,fO (by simp [aD]) hza ?_⟩)
   ·exact A6 (q:=cH q) (a:=aD a) (n:=0) (cs:=zP ((a.length+1)+(b.length+1))) rfl (by omega) (by rw [cc];omega) (by rw [cc,Nat.zero_add]) (by rw [Nat.zero_mul,List.take_zero];rfl)
   ·exact A6 (q:=cH r) (a:=aD b) (T:=⟨[.gone, .row (aD (q::a)).flatten], []⟩) (id:=1) (n:=a.length+1) (cs:=(aD (q::a)).flatten) rfl (by rw [uP];simp) (by rw [cc];omega) (by rw [cc]) (by rw [List.take_of_length_le (by rw [uP];simp)];rfl)
   ·simp [aD];omega
theorem Cm:∀ro ys T K,wm ro ys T K→VCx Try.prog ae ro l6 ys T K:=by
 intro ro ys T K hw
 unfold wm at hw
 split at hw
 ·rename_i a tok1 b tok2 tok
  obtain ⟨⟨⟨a,rfl,ha⟩,b,rfl,hb⟩,hk⟩:=hw
  refine VCx.liftPure am (D3 ha hb) (by simp only [av,bf,TV.ren,cL];rfl) (fun f g=> ?_) hk
  simp only [TV.ren,Tok.ren]
  rw [br,List.map_append,←br,←br,cL,cL]
 ·exact hw.elim
theorem pQ (a b:List (Int × Int)):aD a++aD b=aD (a++b):=(List.map_append ..).symm
theorem Cn {a b:List (Int × Int)} {tok tok1 tok2:Tok} (ha:a.length≤100000) (hb:b.length≤100000):VCx Try.prog ae 0 sN [nR, .vec 1 [[.vec 2 (aD a) tok1], [.vec 2 (aD b) tok2]] tok] ⟨[], []⟩ fun x T' =>x= .val (.bool (!gR (aD a++aD b)))∧T' =⟨[], []⟩:=by
 have hS:aZ Try.prog ae (aw [(l6,wm),(sM,wl)]):=az fun p hp=>by
  rcases List.mem_cons.1 hp with rfl | hp;exact Cm
  obtain rfl:=List.mem_singleton.1 hp;exact Cj
 exact VCx.keepQ 0 0 (Nat.le_refl _) (Nat.le_refl _) (ah ac aa hS ag (DU (aD a) (aD b) tok tok1 tok2 _) ⟨⟨⟨a,rfl,ha⟩,b,rfl,hb⟩,⟨⟨rfl,rfl⟩,a++b,pQ a b,by rw [List.length_append];omega⟩,rfl,rfl⟩)
theorem Co:∀ro ys T K,wo ro ys T K→VCx Try.prog ae ro sN ys T K:=by
 intro ro ys T K hw
 unfold wo at hw
 split at hw
 ·rename_i a tok1 b tok2 tok
  obtain ⟨⟨⟨a,rfl,ha⟩,b,rfl,hb⟩,hk⟩:=hw
  exact VCx.liftPure am (Cn ha hb) (by simp only [av,bf,TV.ren,cL];rfl) (fun _ _=>rfl) hk
 ·exact hw.elim
end
--MbJ
section
open Go.RowKit

theorem Cp {b:Bs} (h:IsB b):∀e∈b,e.length=1:=h.len1
theorem D4 {a b c:Bs} {tok tok1 tok2 tok3:Tok} (h:sR a b c):VCx Try.prog ae 0 uI [.vec 1 [[.vec 1 a tok1], [.vec 1 b tok2], [.vec 1 c tok3]] tok] ⟨[], []⟩ fun x T' =>x= .vec 1 (a++(b++c)) .none∧T' =⟨[], []⟩:=by
 obtain ⟨⟨ha,hane⟩,⟨hb,hbne⟩,hc,hl⟩:=h
 have hbc:IsB (b++c):=IsB.append hb hc (by rw [List.length_append];omega)
 have habc:IsB (a++(b++c)):=IsB.append ha hbc (by rw [List.length_append,List.length_append];omega)
 have hfa:=qF ha
 have hfb:=qF hb
 have hz:=Cp habc
 match a,b,hane,hbne with
 | q::a,r::b,_,_=>
  have hz2:(zR ((q::a).length+(r::b).length)).length=_:=DG _
  cases c with
  | nil=>
   refine VCx.freezeRow habc.ren (ah ac aa DK ag (DW q r a b (q::a).length ((q::a).length+(r::b).length) tok tok1 tok2 tok3 (.row 1 2 0 0) ⟨[.row (zR ((q::a).length+(r::b).length+0))], []⟩ ⟨[.gone, .row (q::a).flatten], []⟩ ⟨[.gone, .gone, .row ((q::a).flatten++(r::b).flatten)], []⟩ ⟨[], []⟩ _) ?_)
   rw [wz (by omega),wa (by omega),wa (by simp only [List.length_cons] at hl ⊢;omega)]
   refine aX mc (aX mc (aX mc ⟨AZ (n:=(((q::a).length+(r::b).length+0:Nat):Int)) (by simp only [List.length_cons];omega) (by omega) 0 ⟨[], []⟩, ?_, ?_,fO (by simp) hz (by simp;omega)⟩))
   ·exact yd (q:=q) (a:=a) (n:=0) (cs:=zR ((q::a).length+(r::b).length+0)) rfl (by omega) (by simp only [List.length_cons] at hl;omega) (by simp only [List.length_cons];omega) (by rw [Nat.zero_mul,List.take_zero];rfl)
   ·exact yd (q:=r) (a:=b) (T:=⟨[.gone, .row (q::a).flatten], []⟩) (id:=1) (n:=(q::a).length) (cs:=(q::a).flatten) rfl (by rw [hfa];omega) (by simp only [List.length_cons] at hl ⊢;omega) (by simp only [List.length_cons]) (by rw [List.take_of_length_le (by rw [hfa];omega)])
  | cons s c=>
   refine VCx.freezeRow habc.ren (ah ac aa DK ag (FL q r s a b c (q::a).length ((q::a).length+(r::b).length) tok tok1 tok2 tok3 (.row 1 3 0 ((q::a).length+(r::b).length+(s::c).length)) ⟨[.row (zR ((q::a).length+(r::b).length+(s::c).length))], []⟩ ⟨[.gone, .row (q::a).flatten], []⟩ ⟨[.gone, .gone, .row ((q::a).flatten++(r::b).flatten)], []⟩ ⟨[.gone, .gone, .gone, .row ((q::a).flatten++(r::b).flatten++(s::c).flatten)], []⟩ _) ?_)
   rw [wz (by omega),wa (by omega),wa (by omega)]
   refine aX mc (aX mc (aX mc ⟨AZ (n:=(((q::a).length+(r::b).length+(s::c).length:Nat):Int)) (by simp only [List.length_cons];omega) (by omega) 0 ⟨[], []⟩, ?_, ?_, ?_,fO (by simp) hz (by simp;omega)⟩))
   ·exact yd (q:=q) (a:=a) (n:=0) (cs:=zR ((q::a).length+(r::b).length+(s::c).length)) rfl (by omega) (by simp only [List.length_cons] at hl;omega) (by simp only [List.length_cons];omega) (by rw [Nat.zero_mul,List.take_zero];rfl)
   ·exact yd (q:=r) (a:=b) (T:=⟨[.gone, .row (q::a).flatten], []⟩) (id:=1) (n:=(q::a).length) (cs:=(q::a).flatten) rfl (by rw [hfa];omega) (by simp only [List.length_cons] at hl ⊢;omega) (by simp only [List.length_cons]) (by rw [List.take_of_length_le (by rw [hfa];omega)])
   ·exact yd (q:=s) (a:=c) (T:=⟨[.gone, .gone, .row ((q::a).flatten++(r::b).flatten)], []⟩) (id:=2) (n:=(q::a).length+(r::b).length) (cs:=(q::a).flatten++(r::b).flatten) rfl (by rw [List.length_append,hfa,hfb];omega) (by simp only [List.length_cons] at hl ⊢;omega) (by simp only [List.length_cons]) (by rw [List.take_of_length_le (by rw [List.length_append,hfa,hfb];omega)])
theorem Cq:∀ro ys T K,wq ro ys T K→VCx Try.prog ae ro uI ys T K:=by
 intro ro ys T K hw
 unfold wq at hw
 split at hw
 ·rename_i a tok1 b tok2 c tok3 tok
  obtain ⟨h,hk⟩:=hw
  have hbc:IsB (b++c):=IsB.append h.2.1.1 h.2.2.1 (by have:=h.2.2.2;rw [List.length_append];omega)
  have habc:IsB (a++(b++c)):=IsB.append h.1.1 hbc (by have:=h.2.2.2;rw [List.length_append,List.length_append];omega)
  exact VCx.liftPure am (D4 h) (by simp only [av,bf,TV.ren,h.1.1.ren,h.2.1.1.ren,h.2.2.1.ren];rfl) (fun f g=>by simp only [TV.ren,habc.ren,Tok.ren]) hk
 ·exact hw.elim
theorem D5 {b:Bs} (hb:pP b):VCx Try.prog ae 0 sO [.vec 1 b .none] ⟨[], []⟩ fun x T' =>x= .vec 1 (aM 2 b.length++b) .none∧T' =⟨[], []⟩:=by
 have hp:=cC (k:=2) (b.length:Int) (by decide)
 have hl:=bJ (k:=2) (b.length:Int)
 have hi:=IsB.append hp hb.1 (by rw [List.length_append,hl];have:=hb.2;omega)
 refine VCx.toLe (Q:=fun T' =>T' =⟨[], []⟩) (VCx.keepQ 0 0 (Nat.le_refl _) (Nat.le_refl _) (ah ac aa (az fun p hp=>by obtain rfl:=List.mem_singleton.1 hp;exact uN) ag (FI b (aM 2 b.length++b) (0+b.length) _) ⟨rfl,⟨⟨by omega,by have:=hb.2;omega⟩,by decide,by decide⟩, ?_, ?_,rfl⟩))
 ·exact mP (ro:=0) (T:=⟨[], [(0,1,false)]⟩) (T1:=⟨[], [(0,1,false)]⟩) (s:= .tmp 5) (x:= .tmp 6) (l:= [(5, .vec 1 (aM 2 b.length) (.tail 0 0)),(6, .vec 1 b .none)]) (es:=aM 2 b.length) (es2:=b) (k:=0) (n:=0) (bn:=false) rfl rfl (by rw [hl];have:=hb.2;omega)
 ·simp only [TV.ren,hi.ren]
  exact .vec 1 _ _
theorem Cr:VCx Try.prog ae 0 sO [.val (.slice none 0 0)] ⟨[], []⟩ fun x T' =>x= .vec 1 (aM 2 0) .none∧T' =⟨[], []⟩:=by
  have hp:=cC (k:=2) 0 (by decide)
  refine VCx.toLe (Q:=fun T' =>T' =⟨[], []⟩) (VCx.keepQ 0 0 (Nat.le_refl _) (Nat.le_refl _) (ah ac aa (az fun p hp=>by obtain rfl:=List.mem_singleton.1 hp;exact uN) ag (DV (aM 2 0) 0 _) ⟨rfl,⟨⟨by decide,by decide⟩,by decide,by decide⟩, ?_, ?_,rfl⟩))
  · have h:=mP (ro:=0) (T:=⟨[], [(0,1,false)]⟩) (T1:=⟨[], [(0,1,false)]⟩) (s:= .tmp 5) (x:= .tmp 6) (l:= [(5, .vec 1 (aM 2 0) (.tail 0 0)),(6, .val (.slice none 0 0))]) (es:=aM 2 0) (es2:= []) (k:=0) (n:=0) (bn:=false) rfl rfl (by rw [bJ];decide)
    rw [List.append_nil] at h
    exact h
  · simp only [TV.ren,hp.ren]
    exact .vec 1 _ _
theorem D6:∀ro ys T K,A5 ro ys T K→VCx Try.prog ae ro sO ys T K:=by
 intro ro ys T K hw
 unfold A5 at hw
 split at hw
 ·exact VCx.liftPure am Cr rfl (fun f g=>by simp only [TV.ren,(cC (k:=2) 0 (by decide)).ren,Tok.ren]) hw
 ·rename_i b tok
  obtain ⟨hb,hk⟩:=hw
  have hi:=IsB.append (cC (k:=2) (b.length:Int) (by decide)) hb.1 (by rw [List.length_append,bJ];have:=hb.2;omega)
  refine VCx.loosePure am (D5 hb) (by simp [b9]) (by simp only [av,TV.ren,hb.1.ren,Tok.ren]) (fun f g=>by simp only [TV.ren,hi.ren,Tok.ren]) hk
 ·exact hw.elim
theorem ye (ok:Bool):∀ro ys T K,uL ok ro ys T K→VCx Try.prog ae ro nm ys T K:=by
 intro ro ys T K hw
 unfold uL at hw
 split at hw
 ·obtain ⟨⟨a,rfl,hn,rfl,rfl⟩,hk⟩:=hw
  refine VCx.liftPure am (xs:= [.agg a.cells, .agg DM]) (VCx.argsLe (xs:= [.agg a.cells, .agg dj.cells]) ?_ (x5 a dj hn (Nat.zero_le _))) ?_ (fun _ _=>rfl) hk
  ·exact ⟨.refl _, .agg ⟨.refl _, .nil 1, .refl _, .refl _, .refl _,trivial⟩,trivial⟩
  ·simp only [av,TV.ren,a.ren];rfl
 ·exact hw.elim
theorem D7 (ok:Bool):∀ro ys T K,A2 ok ro ys T K→VCx Try.prog ae ro nm ys T K:=by
 intro ro ys T K hw
 unfold A2 at hw
 split at hw
 ·obtain ⟨⟨a,b,⟨rfl,rfl⟩,⟨hn,hn2⟩,rfl⟩,hk⟩:=hw
  exact VCx.liftPure am (x5 a b hn hn2) (by simp only [av,TV.ren,a.ren,b.ren]) (fun _ _=>rfl) hk
 ·exact hw.elim
theorem D8 (v:Bs):∀ro ys T K,A3 v ro ys T K→VCx Try.prog ae ro xT ys T K:=by
 intro ro ys T K hw
 unfold A3 at hw
 split at hw
 ·obtain ⟨⟨a,rfl,hn,hh,rfl⟩,hk⟩:=hw
  exact VCx.liftPure am (DE a hn hh) (by simp only [av,TV.ren,a.ren]) (fun f g=>by simp only [TV.ren,(sH a).ren,Tok.ren]) hk
 ·exact hw.elim
theorem D9:∀ro ys T K,A4 ro ys T K→VCx Try.prog ae ro iK ys T K:=by
 intro ro ys T K hw
 unfold A4 at hw
 split at hw
 ·obtain ⟨⟨p,rfl,hp⟩,hk⟩:=hw
  unfold fB at hk
  rw [mU] at hk
  exact VCx.loosePure am (B7 hp) (by simp [b9,aD]) (by simp only [av,TV.ren,iH,Tok.ren]) (fun f g=>by simp only [TV.ren,(gp hp).ren,Tok.ren]) hk
 ·exact hw.elim
theorem Ea {u:UpV} (hu:jE u):VCx Try.prog ae 0 Gi [.agg u.cells] ⟨[], []⟩ fun x T' =>x= .val (.bool (fC u))∧T' =⟨[], []⟩:=by
 obtain ⟨h1,h2,h3,h4,h5⟩:=hu
 have hS:aZ Try.prog ae (aw [(sN,wo),(oW,qD (dB u.a)),(nm,uL (decide (u.a=dj)))]):=az fun p hp=>by
  rcases List.mem_cons.1 hp with rfl | hp;exact Co
  rcases List.mem_cons.1 hp with rfl | hp;exact sI _
  obtain rfl:=List.mem_singleton.1 hp;exact ye _
 refine VCx.keepQ 0 0 (Nat.le_refl _) (Nat.le_refl _) (ah ac aa hS ag (FH (aD u.w) (iV u.a.p) (aD u.n) u.a.o u.a.h u.a.m u.a.hm (dB u.a) (decide (u.a=dj)) _) ⟨⟨⟨_,rfl,by omega⟩,_,rfl,by omega⟩, ?_⟩)
 rw [pQ,uO,Bool.not_not,cc]
 have fin:∀(q:Bool) (T:VT),fC u=q→((TV.val (.bool q)).ren (au 0) (au 0)= .val (.bool (fC u))∧T.keep 0 0=⟨[], []⟩):=fun b T h=>⟨by rw [h];rfl,by simp [VT.keep]⟩
 cases hg:(u.w++u.n).all fun p=>fV p.1 p.2
 ·exact bp rfl (fin false _ (by unfold fC;rw [hg];rfl))
 ·refine aX rfl (bq (fun c=>⟨⟨u.a,rfl,h3,rfl⟩,fin _ _ ?_⟩) (fun c=>⟨⟨u.a,rfl,h3,rfl,rfl⟩,fin _ _ ?_⟩))
  ·unfold fC;rw [hg,c];rfl
  ·unfold fC;rw [hg,c];rfl
theorem yf {u:UpV} (hu:jE u) (hg:fC u=true):kR u.w∧kR u.n:=by
 obtain ⟨h1,h2,_⟩:=hu
 unfold fC at hg
 have h:=(Bool.and_eq_true _ _▸hg).1
 rw [List.all_eq_true] at h
 exact ⟨⟨fun p hp=>yc (h p (List.mem_append.2 (.inl hp))),by omega⟩,⟨fun p hp=>yc (h p (List.mem_append.2 (.inr hp))),by omega⟩⟩
theorem Eb (u:UpV):IsB (l8 u)∧(l8 u).length≤10040:=by
 unfold l8
 cases decide ((u.n.length:Int)>0)
 ·exact ⟨.nil,Nat.zero_le _⟩
 ·exact ⟨sH _,uH _⟩
theorem yg {b:Bs} (h:0<b.length):b≠ []:=List.length_pos_iff.1 h
theorem yh {u:UpV} (hu:jE u) (hg:fC u=true):sR (aM 2 (bX u.w).length++bX u.w) (aM 2 (l8 u).length++l8 u) (bX u.n):=by
 obtain ⟨hw,hn⟩:=yf hu hg
 obtain ⟨h1,h2,_⟩:=hu
 obtain ⟨a1,a2⟩:=Eb u
 have l1:=gn u.w
 have l2:=gn u.n
 have p2:∀z:Int,(aM 2 z).length=2:=fun z=>bJ z
 refine ⟨⟨IsB.append (cC _ (by decide)) (gp hw) ?_,yg ?_⟩,⟨IsB.append (cC _ (by decide)) a1 ?_,yg ?_⟩,gp hn, ?_⟩<;>simp only [List.length_append,p2]<;>omega
theorem yi {u:UpV} (hu:jE u) (hg:fC u=true):IsB (l9 u):=by
 have h:=yh hu hg
 exact IsB.append h.1.1 (IsB.append h.2.1.1 h.2.2.1 (by have:=h.2.2.2;simp only [List.length_append] at this ⊢;omega)) (by have:=h.2.2.2;simp only [List.length_append] at this ⊢;omega)
theorem Ec {u:UpV} (hu:jE u) (hg:fC u=true):VCx Try.prog ae 0 Gj [.agg u.cells] ⟨[], []⟩ fun x T' =>x= .vec 1 (l9 u) .none∧T' =⟨[], []⟩:=by
 have hS:aZ Try.prog ae (aw [(xT,A3 (iL u.a)),(iK,A4),(sO,A5),(uI,wq)]):=az fun p hp=>by
  rcases List.mem_cons.1 hp with rfl | hp;exact D8 _
  rcases List.mem_cons.1 hp with rfl | hp;exact D9
  rcases List.mem_cons.1 hp with rfl | hp;exact D6
  obtain rfl:=List.mem_singleton.1 hp;exact Cq
 obtain ⟨hw,hn⟩:=yf hu hg
 have hc:=yh hu hg
 have hB:=yi hu hg
 have l1:=gn u.w
 obtain ⟨h1,h2,h3,h4,h5⟩:=hu
 have e1:fB (aD u.w)=bX u.w:=by unfold fB;rw [mU]
 have e2:fB (aD u.n)=bX u.n:=by unfold fB;rw [mU]
 have fin:∀(v:Bs) (T:VT),v=l9 u→((TV.vec 1 v .none).ren (au 0) (au 0)= .vec 1 (l9 u) .none∧T.keep 0 0=⟨[], []⟩):=fun v T h=>⟨by subst h;simp only [TV.ren,hB.ren,Tok.ren],by simp [VT.keep]⟩
 refine VCx.keepQ 0 0 (Nat.le_refl _) (Nat.le_refl _) (ah ac aa hS ag (FJ (aD u.w) (iV u.a.p) (aD u.n) (iL u.a) u.a.o u.a.h u.a.m u.a.hm _) ?_)
 rw [e1,e2,cc]
 have cw:pP (bX u.w):=⟨gp hw,by omega⟩
 have hA:∀c,decide ((u.n.length:Int)>0)=c→l8 u=bif c then iL u.a else []:=fun c h=>by unfold l8;rw [h]
 refine bq (fun c=> ?_) (fun c=> ?_)
 ·have e:=hA _ c
  simp only [cond_true] at e
  rw [e] at hc
  exact ⟨⟨u.a,rfl,h3,⟨h4,h5⟩,rfl⟩,⟨_,rfl,hw⟩,⟨rfl,rfl,trivial⟩,cw,⟨rfl,rfl,trivial⟩,⟨sH _,by have:=uH u.a;omega⟩,⟨rfl,rfl,trivial⟩,⟨_,rfl,hn⟩,hc,fin _ _ (by unfold l9;rw [e])⟩
 ·have e:=hA _ c
  simp only [cond_false] at e
  have e2:aM (2:Int) ((([]:Bs).length:Nat):Int)++ []=aM 2 0:=by rw [List.append_nil];rfl
  rw [e,e2] at hc
  exact ⟨⟨_,rfl,hw⟩,⟨rfl,rfl,trivial⟩,cw,⟨rfl,rfl,trivial⟩,⟨rfl,rfl,trivial⟩,⟨_,rfl,hn⟩,hc,fin _ _ (by unfold l9;rw [e,e2])⟩
end
end Go.Proofs.Ytnfplefcghadfaa
namespace Go.Proofs
open Go.Shelf
def Try.sortCh_ren:Go.Shelf.Ren:=⟨fun | 6=>56 | 15=>81 | 14=>80 | 28=>117 | 29=>118 | 20=>109 | 21=>110 | 22=>111 | 23=>112 | 24=>113 | 25=>114 | 26=>115 | 27=>116 | 46=>133 | 47=>134 | 48=>135 | 49=>136 | 50=>137 | 57=>149 | n=>n,fun | 22=>48 | 24=>34 | 25=>103 | 3=>3 | 39=>58 | 0=>0 | 53=>27 | 55=>156 | 4=>4 | 46=>149 | 45=>148 | 50=>100 | 5=>5 | 9=>9 | 66=>170 | 70=>174 | 76=>184 | 77=>50 | n=>n,fun | n=>n⟩
theorem Try.sortCh:Go.Proofs.SlLaysF0.n6 Try.prog Try.sortCh_ren:={
 mixed:=by kernel_rfl
 f6:=⟨Try.f56.name,by decide,Try.func56.trans (congrArg some (by kernel_rfl))⟩
 f14:=⟨Try.f80.name,by decide,Try.func80.trans (congrArg some (by kernel_rfl))⟩
 f15:=Try.func81.trans (congrArg some (by kernel_rfl))
 f20:=⟨Try.f109.name,by decide,Try.func109.trans (congrArg some (by kernel_rfl))⟩
 f21:=⟨Try.f110.name,by decide,Try.func110.trans (congrArg some (by kernel_rfl))⟩
 f22:=⟨Try.f111.name,by decide,Try.func111.trans (congrArg some (by kernel_rfl))⟩
 f23:=⟨Try.f112.name,by decide,Try.func112.trans (congrArg some (by kernel_rfl))⟩
 f24:=⟨Try.f113.name,by decide,Try.func113.trans (congrArg some (by kernel_rfl))⟩
 f25:=⟨Try.f114.name,by decide,Try.func114.trans (congrArg some (by kernel_rfl))⟩
 f26:=⟨Try.f115.name,by decide,Try.func115.trans (congrArg some (by kernel_rfl))⟩
 f27:=⟨Try.f116.name,by decide,Try.func116.trans (congrArg some (by kernel_rfl))⟩
 f28:=Try.func117.trans (congrArg some (by kernel_rfl))
 f29:=Try.func118.trans (congrArg some (by kernel_rfl))
 f46:=⟨Try.f133.name,by decide,Try.func133.trans (congrArg some (by kernel_rfl))⟩
 f47:=Try.func134.trans (congrArg some (by kernel_rfl))
 f48:=Try.func135.trans (congrArg some (by kernel_rfl))
 f49:=⟨Try.f136.name,by decide,Try.func136.trans (congrArg some (by kernel_rfl))⟩
 f50:=⟨Try.f137.name,by decide,Try.func137.trans (congrArg some (by kernel_rfl))⟩
 f57:=⟨Try.f149.name,by decide,Try.func149.trans (congrArg some (by kernel_rfl))⟩
 t0:=Try.underlying0
 a0:=Try.isAgg0
 z0:=Try.sizeOf0
 v0:=Try.zeroValue0
 t3:=Try.underlying3
 a3:=Try.isAgg3
 z3:=Try.sizeOf3
 v3:=Try.zeroValue3
 t4:=Try.underlying4
 a4:=Try.isAgg4
 z4:=Try.sizeOf4
 v4:=Try.zeroValue4
 t5:=Try.underlying5
 a5:=Try.isAgg5
 z5:=Try.sizeOf5
 v5:=Try.zeroValue5
 t9:=Try.underlying9
 a9:=Try.isAgg9
 z9:=Try.sizeOf9
 v9:=Try.zeroValue9
 t22:=Try.underlying48
 a22:=Try.isAgg48
 z22:=Try.sizeOf48
 v22:=Try.zeroValue48
 t25:=Try.underlying103
 a25:=Try.isAgg103
 z25:=Try.sizeOf103
 v25:=Try.zeroValue103
 t39:=Try.underlying58
 a39:=Try.isAgg58
 z39:=Try.sizeOf58
 v39:=Try.zeroValue58
 t45:=Try.underlying148
 a45:=Try.isAgg148
 z45:=Try.sizeOf148
 v45:=Try.zeroValue148
 t46:=Try.underlying149
 a46:=Try.isAgg149
 z46:=Try.sizeOf149
 v46:=Try.zeroValue149
 t50:=Try.underlying100
 a50:=Try.isAgg100
 z50:=Try.sizeOf100
 v50:=Try.zeroValue100
 t53:=Try.underlying27
 a53:=Try.isAgg27
 z53:=Try.sizeOf27
 v53:=Try.zeroValue27
 t55:=Try.underlying156
 a55:=Try.isAgg156
 z55:=Try.sizeOf156
 v55:=Try.zeroValue156
 t66:=Try.underlying170
 a66:=Try.isAgg170
 z66:=Try.sizeOf170
 v66:=Try.zeroValue170
 t70:=Try.underlying174
 a70:=Try.isAgg174
 z70:=Try.sizeOf174
 v70:=Try.zeroValue174
 t76:=Try.underlying184
 a76:=Try.isAgg184
 z76:=Try.sizeOf184
 v76:=Try.zeroValue184
 t77:=Try.underlying50
 a77:=Try.isAgg50
 z77:=Try.sizeOf50
 v77:=Try.zeroValue50}
end Go.Proofs
set_option maxRecDepth 100000
--Pfx2
namespace Go.Proofs.Ytnfplefcghadfaa
section
open Go.RowKit

def iM (a b:Int):Int:=if a<b then-1 else if b<a then 1 else 0
set_option maxHeartbeats 400000 in
theorem Ed (a b:Int) (w:World):Calls Try.prog 83 #[.int .u32 a, .int .u32 b] w fun e w' =>e= .returned (.int .i64 (iM a b))∧w=w' :=by
 go_enter Try.func83,Try.ntmps83
 go_wp2
 all_goals (go_ret;exact ⟨tT (by unfold iM;first | rw [if_pos ‹_›] | rw [if_neg (by omega),if_pos (by omega)] | rw [if_neg (by omega),if_neg (by omega)]),rfl⟩)
set_option maxHeartbeats 400000 in
theorem FN (a b:Int) (w:World):Calls Try.prog 84 #[.int .i64 a, .int .i64 b] w fun e w' =>e= .returned (.int .i64 (iM a b))∧w=w' :=by
 go_enter Try.func84,Try.ntmps84
 go_wp2
 all_goals (go_ret;exact ⟨tT (by unfold iM;first | rw [if_pos ‹_›] | rw [if_neg (by omega),if_pos (by omega)] | rw [if_neg (by omega),if_neg (by omega)]),rfl⟩)

def md:List Int→Int
 | []=>0
 | x::r=>if x=0 then md r else x
theorem nS:∀(zs:List Int) (k:Nat),(∀j,j<k→zs.getD j 0=0)→md zs=md (zs.drop k)
 | [],_,_=>by simp
 | x::r,0,_=>by simp
 | x::r,k+1,h=>by
  have h0:=h 0 (by omega)
  simp at h0
  simp only [md,h0,if_true,List.drop_succ_cons]
  exact nS r k (fun j hj=>by have:=h (j+1) (by omega);simpa using this)

set_option maxHeartbeats 400000 in
theorem GP (zs:List Int) (w:World) (pb po:Nat) (hn:zs.length≤1000) (hc:∀j,j<zs.length→w.cell? ⟨pb,po+j,none⟩=some (.int .i64 (zs.getD j 0))):
    Calls Try.prog 82 #[.slice (some ⟨pb,po,none⟩) zs.length zs.length] w fun e w' =>e= .returned (.int .i64 (md zs))∧w=w' :=by
  have HC:=Lib.hid hc
  clear hc
  go_enter Try.func82,Try.ntmps82
  go_wp2
  go_loop [5,8] (fun _ i=>∃k:Nat,k≤zs.length∧i= .int .i64 k∧∀j,j<k→zs.getD j 0=0) (fun _ i=>zs.length-(intOf i).toNat)
  case atStart=>exact ⟨0,Nat.zero_le _,rfl,fun j hj=>absurd hj (by omega)⟩
  case round=>
    obtain ⟨k,hk,rfl,hz⟩:=hrel
    have HZ:=Lib.hid hz
    clear hz
    by_cases hlt:k<zs.length
    · have c0:=HC.out k hlt
      generalize hx:zs.getD k 0=x at c0
      have HX:=Lib.hid hx
      clear hx
      by_cases h0:x=0
      · subst h0
        go_wp2
        go_round
        case rel=>exact ⟨k+1,by omega,by go_num,fun j hj=>by
          rcases Nat.lt_or_ge j k with h | h
          · exact HZ.out j h
          · obtain rfl:j=k:=by omega
            exact HX.out⟩
        case measure=>simp [intOf];omega
      · have e1:=Lib.hid (show md zs=x by
          rw [nS zs k HZ.out,List.drop_eq_getElem_cons hlt]
          have:zs[k]=x:=by rw [←HX.out];simp [hlt]
          simp only [md,this,h0,if_false])
        have h0' :(x !=0)=true:=by simpa using h0
        clear h0
        go_wp2
        go_ret
        exact ⟨by rw [e1.out];rfl,rfl⟩
    · have e1:=Lib.hid (show md zs=0 by
        rw [nS zs k HZ.out,List.drop_eq_nil_of_le (by omega)];rfl)
      go_wp2
      go_ret
      exact ⟨by rw [e1.out];rfl,rfl⟩

def FO (a:Int) (n:Int) (b:Int) (m:Int):Int:=md [iM a b,iM n m]
end
--PREv
section
open Go.RowKit

end
--PRCmp
section
open Go.RowKit

set_option maxHeartbeats 400000 in
theorem FP (a n b m:Int) (w:World):
  Calls Try.prog 58 #[.agg #[.int .u32 a, .int .i64 n], .agg #[.int .u32 b, .int .i64 m]] w fun e w' =>e= .returned (.int .i64 (FO a n b m))∧Gd w w' :=by
 have d0:=rf ((Gr.refl _).alloc (.cells #[.int .u32 b, .int .i64 m] 29)) (my w [.int .u32 a, .int .i64 n] 29 0 _ rfl)
 have d1:=rf ((Gr.refl _).alloc (.cells #[.int .u32 b, .int .i64 m] 29)) (my w [.int .u32 a, .int .i64 n] 29 1 _ rfl)
 have d2:=my (w.alloc (.cells #[.int .u32 a, .int .i64 n] 29)) [.int .u32 b, .int .i64 m] 29 0 _ rfl
 have d3:=my (w.alloc (.cells #[.int .u32 a, .int .i64 n] 29)) [.int .u32 b, .int .i64 m] 29 1 _ rfl
 have gw:=((Gr.refl w).alloc (.cells #[.int .u32 a, .int .i64 n] 29)).alloc (.cells #[.int .u32 b, .int .i64 m] 29)
 simp only [World.size_alloc] at d2 d3
 go_enter Try.func58,Try.ntmps58
 go_wp2_with fail
 have hd:((w.alloc (.cells #[.int .u32 a, .int .i64 n] 29)).alloc (.cells #[.int .u32 b, .int .i64 m] 29)).drawn=w.drawn:=rfl
 generalize (w.alloc (.cells #[.int .u32 a, .int .i64 n] 29)).alloc (.cells #[.int .u32 b, .int .i64 m] 29)=W at*
 replace gw:Gd w W:=⟨gw,by omega⟩
 replace d0:=fun w' (k:Gd W w')=>d0 w' k.1
 replace d1:=fun w' (k:Gd W w')=>d1 w' k.1
 replace d2:=fun w' (k:Gd W w')=>d2 w' k.1
 replace d3:=fun w' (k:Gd W w')=>d3 w' k.1
 have hS0:=(Gd.refl W).drew
 refine pm [(0,true),(1,true),(2,true),(3,true),(5,true),(6,true),(7,true),(8,true),(4,false),(9,false),(10,false),(11,false),(12,true)] (Gd W) (by kernel_rfl) (by kernel_rfl) hS0 ?_
 simp only [g9,List.getElem?_toArray,List.getElem?_cons_zero,List.getElem?_cons_succ]
 repeat (first
  | (refine tz (by rfl) ?_;(try simp only [Act.put,List.setIfInBounds_toArray,List.set_cons_zero,List.set_cons_succ]))
  | (refine tA (by rfl) ?_;apply Exists.intro;refine ⟨fun w' hSw=> ?_, ?_⟩;(focus ((try dsimp only at hSw);go_simp;first | done | with_reducible rfl));(try simp only [Act.put,List.setIfInBounds_toArray,List.set_cons_zero,List.set_cons_succ]))
  | (refine p9 (by rfl) (fun K hK=> ?_);go_simp;(first | (go_at_call 83;refine (Ed _ _ _).mono ?_;rintro e w2 ⟨rfl,rfl⟩) | (go_at_call 84;refine (FN _ _ _).mono ?_;rintro e w2 ⟨rfl,rfl⟩) | (go_at_call 82;refine (GP [iM a b,iM n m] _ _ 0 (by simp) ?_).mono ?_;(focus (intro j hj;simp at hj;obtain rfl | rfl:j=0∨j=1:=(by omega))<;>simp);rintro e w2 ⟨rfl,rfl⟩));refine hK _ _ (by first | exact Gd.alloc (by assumption) _ | assumption) (fun hSn=> ?_);clear hK K;(try simp only [Act.put,List.setIfInBounds_toArray,List.set_cons_zero,List.set_cons_succ]))
  | (refine p9 (by rfl) (fun K hK=> ?_);go_simp;refine hK _ _ (by first | exact Gd.alloc (by assumption) _ | assumption) (fun hSn=> ?_);clear hK K;(try simp only [Act.put,List.setIfInBounds_toArray,List.set_cons_zero,List.set_cons_succ])))
 refine u3 ?_
 go_wp2
 go_ret
 exact ⟨rfl,gw.trans (by assumption)⟩
def j7 (x y:Int × Int):Int:=md [iM x.1 y.1,iM x.2 y.2]
end
--PRLaw
section
open Go.RowKit Go.Sort Go.Shelf

abbrev Px:=Int × Int
def c8 (x y:Px):Prop:=x.1<y.1∨(x.1=y.1∧x.2<y.2)
instance (x y:Px):Decidable (c8 x y):=by unfold c8;infer_instance
theorem dZ (x:Px):¬c8 x x:=by unfold c8;omega
theorem kS {x y z:Px} (h:c8 x y) (k:c8 y z):c8 x z:=by unfold c8 at*;omega
theorem oZ {x y:Px} (h:¬c8 x y) (k:¬c8 y x):x=y:=by
 obtain ⟨a,b⟩:=x;obtain ⟨c,d⟩:=y
 unfold c8 at*
 simp only at*
 have:a=c∧b=d:=by omega
 rw [this.1,this.2]
theorem o3:∀{l m:List Px},l.Pairwise c8→m.Pairwise c8→(∀x,x∈l ↔ x∈m)→l=m
  | [], [],_,_,_=>rfl
  | [],b::m,_,_,h=>by have:=(h b).2 (by simp);simp at this
  | a::l, [],_,_,h=>by have:=(h a).1 (by simp);simp at this
  | a::l,b::m,hl,hm,h=>by
    obtain ⟨hl1,hl2⟩:=List.pairwise_cons.1 hl
    obtain ⟨hm1,hm2⟩:=List.pairwise_cons.1 hm
    have e:a=b:=by
      rcases List.mem_cons.1 ((h a).1 (by simp)) with h1 | h1
      · exact h1
      · rcases List.mem_cons.1 ((h b).2 (by simp)) with h2 | h2
        · exact h2.symm
        · exact absurd (kS (hm1 a h1) (hl1 b h2)) (dZ b)
    subst e
    congr 1
    refine o3 hl2 hm2 fun x=>⟨fun hx=> ?_,fun hx=> ?_⟩
    · rcases List.mem_cons.1 ((h x).1 (List.mem_cons_of_mem _ hx)) with rfl | h1
      · exact absurd (hl1 x hx) (dZ x)
      · exact h1
    · rcases List.mem_cons.1 ((h x).2 (List.mem_cons_of_mem _ hx)) with rfl | h1
      · exact absurd (hm1 x hx) (dZ x)
      · exact h1
def jf:Px→List Px→List Px
 | _, []=> []
 | p,a::l=>if a=p then jf p l else a::jf a l
def g6:List Px→List Px
 | []=> []
 | a::l=>a::jf a l
theorem sV (x y:Px):ltOf j7 x y=true ↔ c8 x y:=by
 unfold ltOf j7 c8
 simp only [md,iM]
 by_cases a1:x.1<y.1
 ·simp [a1]
 ·by_cases a2:y.1<x.1
  ·simp [a1,a2];omega
  ·by_cases b1:x.2<y.2
   ·simp [a1,a2,b1];omega
   ·by_cases b2:y.2<x.2
    ·simp [a1,a2,b1,b2];try omega
    ·simp [a1,a2,b1,b2]
theorem ij (x y:Px):ltOf j7 x y=false ↔ ¬c8 x y:=by rw [←sV x y];simp
theorem Ee:SWO (ltOf j7):=by
 refine ⟨fun x=> ?_,fun x y z h1 h2=> ?_,fun x y z h1 h2=> ?_⟩
 ·rw [ij];exact dZ x
 ·rw [sV] at*;exact kS h1 h2
 ·rw [ij] at*;unfold c8 at*;omega
theorem As (x y:Px) (h1:ltOf j7 x y=false) (h2:ltOf j7 y x=false):x=y:=by
 rw [ij] at h1 h2;exact oZ h1 h2
def gC (l:List Px):List Px:=l.mergeSort fun x y=> !(ltOf j7) y x
theorem yj (l:List Px):(gC l).length=l.length:=List.length_mergeSort l
theorem sW (l:List Px):(gC l).Pairwise (fun x y=>¬c8 y x):=by
 have:=List.pairwise_mergeSort (le:=fun x y=> !(ltOf j7) y x) (fun a b c h1 h2=> ?_) (fun a b=> ?_) l
 ·refine List.Pairwise.imp ?_ this
  intro a b h
  exact (ij b a).1 (by simpa using h)
 ·simp only [Bool.not_eq_eq_eq_not,Bool.not_true] at*
  rw [ij] at*
  unfold c8 at*;omega
 ·cases h:ltOf j7 b a with
  | false=>simp
  | true=>
   have h1:=(sV b a).1 h
   have:ltOf j7 a b=false:=(ij a b).2 fun k=>dZ a (kS k h1)
   simp [this]
theorem kT:∀(p:Px) (l:List Px) (x:Px),jf p (l++ [x])=if (p::l).getLast?=some x then jf p l else jf p l++ [x]
 | p, [],x=>by
  simp only [List.nil_append,jf,List.getLast?_singleton,Option.some.injEq]
  by_cases h:x=p
  ·subst h;simp
  ·rw [if_neg h,if_neg (fun e=>h e.symm)]
 | p,a::l,x=>by
  have e:(p::a::l).getLast?=(a::l).getLast?:=by simp [List.getLast?_cons_cons]
  simp only [List.cons_append,jf,e]
  split
  ·rename_i h;subst h
   exact kT a l x
  ·rw [kT a l x]
   split<;>simp
theorem wt (l:List Px) (x:Px) (hl:l≠ []):g6 (l++ [x])=if l.getLast?=some x then g6 l else g6 l++ [x]:=by
 cases l with
 | nil=>exact absurd rfl hl
 | cons a l=>
  simp only [List.cons_append,g6,kT]
  split<;>simp
theorem wu {l:List Px} {j:Nat} {x y:Px} (hx:l[j]?=some x) (hj:0<j) (hy:l[j-1]?=some y):g6 (l.take (j+1))=if y=x then g6 (l.take j) else g6 (l.take j)++ [x]:=by
 have hlt:=(List.getElem?_eq_some_iff.1 hx).1
 have e:l.take (j+1)=l.take j++ [x]:=by rw [List.take_add_one,hx];rfl
 have hn:l.take j≠ []:=by
  intro h
  have:=congrArg List.length h
  rw [List.length_take,List.length_nil] at this
  omega
 have hlast:(l.take j).getLast?=some y:=by
  have hj2:(l.take j).length=j:=by rw [List.length_take];omega
  rw [List.getLast?_eq_getElem?,hj2,List.getElem?_take,if_pos (by omega)]
  exact hy
 rw [e,wt _ _ hn,hlast]
 simp
structure CptB (l c:List Px) (k j:Nat):Prop where
 len:c.length=l.length
 k0:0<k
 kj:k<j
 jl:j≤l.length
 done:c.take k=g6 (l.take j)
 left:c.drop (j-1)=l.drop (j-1)
theorem CptB.start {l:List Px} {j:Nat} {x:Px} (hj:0<j) (hx:l[j]?=some x) (hy:l[j-1]?=some x) (h:g6 (l.take j)=l.take j):CptB l l j (j+1) where
 len:=rfl
 k0:=hj
 kj:=Nat.lt_succ_self _
 jl:=(List.getElem?_eq_some_iff.1 hx).1
 done:=by rw [wu hx hj hy,if_pos rfl,h]
 left:=rfl
end
--PRRef
section
open Go.RowKit

end
--PRCpt
section
open Go.RowKit

end
--PRSort
section
open Go.RowKit Go.Sort Go.Shelf

end
--PRL
section
open Go.RowKit

end
section
open Go.RowKit

def kP:KS:=⟨true, [.int .u32, .int .i64]⟩
def dC (p:Px):Value:= .agg #[.int .u32 p.1, .int .i64 p.2]
def Ef:Value→Px
 | .agg #[.int _ a, .int _ n]=>(a,n)
 | _=>(0,0)
end
section
open Go.RowKit

theorem At (p:Px):Ef (dC p)=p:=rfl
section
variable {lk:Value→Option TV} {es:List (Value × TV × Nat)} {ck:Nat}
end
end
section
open Go.RowKit

abbrev gS:=Value→Option TV
abbrev gM:=List (Value × TV × Nat)
abbrev A7:=Px × AtV
def uQ (p:Px) (a:AtV) (g:Bool):Bool:=fV p.1 p.2&&bif g then decide (a=dj) else dB a
abbrev yk:=43
def Gm (a n:Int):TV:= .agg [.val (.int .u32 a), .val (.int .i64 n)]
def gU (a n:Int) (x:AtV) (g:Bool):List TV:= [.val (.int .u32 a), .val (.int .i64 n)]++x.cells++ [.val (.bool g)]
theorem FQ (a n:Int) (x:AtV) (g ok ok2:Bool) (Q:TV→VT→Prop):an Try.prog ae (aw [(sL,uK),(oW,qD ok),(nm,uL ok2)]) (aV [(999998, .dead,none)]) 300 ay 0 yk [.agg (gU a n x g)] ⟨[], []⟩ Q=
 (bif g
 then (bif fV a n
 then (Al [(.val (.int .i64 (AtV.o x))),(.vec 1 (iV (AtV.p x)) .none),(.val (.int .u32 (AtV.h x))),(.val (.int .i64 (AtV.m x))),(.val (.bool (AtV.hm x)))] [(.val (.int .i64 0)),(.val (.slice .none 0 0)),(.val (.int .u32 0)),(.val (.int .i64 0)),(.val (.bool false))] (ok2)∧
 Q (.val (.bool (ok2))) ⟨[(.cells [(.val (.int .u32 (a))),(.val (.int .i64 (n))),(.val (.int .i64 (AtV.o x))),(.vec 1 (iV (AtV.p x)) .none),(.val (.int .u32 (AtV.h x))),(.val (.int .i64 (AtV.m x))),(.val (.bool (AtV.hm x))),(.val (.bool (g)))])], []⟩)
 else Q (.val (.bool false)) ⟨[(.cells [(.val (.int .u32 (a))),(.val (.int .i64 (n))),(.val (.int .i64 (AtV.o x))),(.vec 1 (iV (AtV.p x)) .none),(.val (.int .u32 (AtV.h x))),(.val (.int .i64 (AtV.m x))),(.val (.bool (AtV.hm x))),(.val (.bool (g)))])], []⟩)
 else (bif fV a n
 then (wh [(.val (.int .i64 (AtV.o x))),(.vec 1 (iV (AtV.p x)) .none),(.val (.int .u32 (AtV.h x))),(.val (.int .i64 (AtV.m x))),(.val (.bool (AtV.hm x)))] (ok)∧
 Q (.val (.bool (ok))) ⟨[(.cells [(.val (.int .u32 (a))),(.val (.int .i64 (n))),(.val (.int .i64 (AtV.o x))),(.vec 1 (iV (AtV.p x)) .none),(.val (.int .u32 (AtV.h x))),(.val (.int .i64 (AtV.m x))),(.val (.bool (AtV.hm x))),(.val (.bool (g)))])], []⟩)
 else Q (.val (.bool false)) ⟨[(.cells [(.val (.int .u32 (a))),(.val (.int .i64 (n))),(.val (.int .i64 (AtV.o x))),(.vec 1 (iV (AtV.p x)) .none),(.val (.int .u32 (AtV.h x))),(.val (.int .i64 (AtV.m x))),(.val (.bool (AtV.hm x))),(.val (.bool (g)))])], []⟩)):=by kernel_rfl
end
section
open Go.RowKit

theorem Au {p q:Px} (h:dC p=dC q):p=q:=by
 have:=congrArg Ef h
 simpa [At] using this
theorem A8 (p:Px):kP.fits (dC p)=true:=rfl
theorem GE (p q:Px):ak (dC p) (dC q)=decide (p=q):=by
 have h:=bD (A8 p) (A8 q)
 cases hk:ak (dC p) (dC q) with
 | true=>exact (decide_eq_true (Au (h.1 hk))).symm
 | false=>
  refine (decide_eq_false fun e=> ?_).symm
  rw [h.2 (by rw [e])] at hk;cases hk
section
variable {W:List A7} {lk:gS} {es:gM} {ck:Nat}
end
end
section
open Go.RowKit

end
section
open Go.RowKit
set_option maxRecDepth 100000

theorem o4 {G:ax} {T:VT} {t:TypeId} {m k:Operand} {ok:Bool} {l:List (Nat × TV)} {y:TV} (h:cY Try.prog T t (aN G l m) (aN G l k) ok=some y):aW Try.prog G 0 T (.lookup t m k ok) l y T:=by
 refine .mk ?_
 have h1:aS Try.prog (.lookup t m k ok) (aN G l)=none:=by simp [aS,de]
 have h2:aH Try.prog T (.lookup t m k ok) (aN G l)=some y:=by simp only [aH,h]
 simp only [ep,h1,h2]
end
section
open Go.RowKit
set_option maxRecDepth 100000

theorem Eg (p:Px) {a:AtV} (g:Bool) (ha:a.p.length≤9223372036854775807):VCx Try.prog ae 0 yk [.agg (gU p.1 p.2 a g)] ⟨[], []⟩ fun x T' =>x= .val (.bool (uQ p a g))∧T' =⟨[], []⟩:=by
 have hS:aZ Try.prog ae (aw [(sL,uK),(oW,qD (dB a)),(nm,uL (decide (a=dj)))]):=az fun q hq=>by
  rcases List.mem_cons.1 hq with rfl | hq;exact yb
  rcases List.mem_cons.1 hq with rfl | hq;exact sI _
  obtain rfl:=List.mem_singleton.1 hq;exact ye _
 refine VCx.keepQ 0 0 (Nat.le_refl _) (Nat.le_refl _) (ah ac aa hS ag (FQ p.1 p.2 a g (dB a) (decide (a=dj)) _) ?_)
 unfold uQ
 refine bq (fun hg=> ?_) (fun hg=> ?_)
 ·subst hg
  refine bq (fun hp=> ?_) (fun hp=> ?_)
  ·rw [hp];exact ⟨⟨a,rfl,ha,rfl,rfl⟩,rfl,rfl⟩
  ·rw [hp];exact ⟨rfl,rfl⟩
 ·subst hg
  refine bq (fun hp=> ?_) (fun hp=> ?_)
  ·rw [hp];exact ⟨⟨a,rfl,ha,rfl⟩,rfl,rfl⟩
  ·rw [hp];exact ⟨rfl,rfl⟩
section
variable {W H:List A7} {lk lk2:gS} {es es2:gM} {ck ck2:Nat}
end
end
section
open Go.RowKit

end
section
open Go.RowKit
set_option maxRecDepth 100000

end
section
open Go.RowKit
set_option maxRecDepth 100000

section
variable {W H:List A7} {lk lk2:gS} {es es2:gM} {ck ck2:Nat}
theorem g7 {j:Nat} (h:j≤3000000):IntKind.wrap IntKind.i64 ((j:Int)+1)=((j+1:Nat):Int):=by rw [cj (by omega) (by omega)];omega
end
end
section
open Go.RowKit
set_option maxRecDepth 100000

section
variable {W H:List A7} {lk lk2:gS} {es es2:gM} {ck ck2:Nat}
end
end
section

def cl (n:Int):Nat:=if n<0 then 0 else if 32<n then 32 else n.toNat
theorem FR (n:Int):cl n≤32:=by unfold cl;split;omega;split<;>omega
def jg (n:Int):Nat:=2^32-2^(32-cl n)
def hd (a:Nat) (n:Int):Nat:=a/2^(32-cl n)*2^(32-cl n)
theorem sX (n:Int):(n<0∧cl n=0)∨(32<n∧cl n=32)∨(0≤n∧n≤32∧(cl n:Int)=n):=by
 unfold cl
 by_cases h0:n<0
 ·exact .inl ⟨h0,by simp [h0]⟩
 ·by_cases h1:32<n
  ·exact .inr (.inl ⟨h1,by simp [h0,h1]⟩)
  ·exact .inr (.inr ⟨by omega,by omega,by simp [h0,h1];omega⟩)

def tl (b:Nat) (m:Int):Nat:=hd b m ||| (4294967295-jg m)
theorem mf (k i:Nat) (hk:k≤32):(2^32-2^(32-k)).testBit i=(decide (32-k≤i)&&decide (i<32)):=by
 have e:2^32-2^(32-k)=(2^k-1)<<<(32-k):=by
  rw [Nat.shiftLeft_eq,Nat.sub_mul,←Nat.pow_add,Nat.one_mul]
  congr 2;omega
 rw [e,Nat.testBit_shiftLeft,Nat.testBit_two_pow_sub_one]
 by_cases h:32-k≤i
 ·simp [h];omega
 ·simp [h]
theorem Cs (k:Nat) (hk:k<32):(2^32-2^(32-k)) ||| 2^(31-k)=2^32-2^(32-(k+1)):=by
 apply Nat.eq_of_testBit_eq
 intro i
 rw [Nat.testBit_or,mf k i (by omega),mf (k+1) i (by omega),Nat.testBit_two_pow]
 rw [Bool.eq_iff_iff]
 simp
 omega
end
set_option maxRecDepth 100000
--PfxG
section
open Go.RowKit

end
--PfxR
section
open Go.RowKit

theorem Ct {k:IntKind} {a b:Int} (h:a=b):Value.int k a= .int k b:=by rw [h]
theorem Av (k:Nat) (hk:k<32):bits .or .u32 ((4294967296-2^(32-k):Nat):Int) ((2:Int)^(31-k)%4294967296)=((2^32-2^(32-(k+1)):Nat):Int):=by
 have h1:2^(31-k)≤2^31:=Nat.pow_le_pow_right (by decide) (by omega)
 have h0:0<2^(32-k):=Nat.two_pow_pos _
 have e:((2:Int)^(31-k)%4294967296)=((2^(31-k):Nat):Int):=by
  have:((2:Int)^(31-k))=((2^(31-k):Nat):Int):=by simp
  rw [this]
  generalize 2^(31-k)=x at*
  omega
 rw [e,u32_or_nat _ _ (by omega) (by omega),←Cs k hk]
set_option maxHeartbeats 400000 in
theorem FS (n:Int) (hn:-9223372036854775808≤n∧n≤9223372036854775807) (w:World):
    Calls Try.prog 55 #[.int .i64 n] w fun e w' =>e= .returned (.int .u32 (jg n))∧w=w' :=by
  go_enter Try.func55,Try.ntmps55
  go_wp2
  go_loop [3,4] (fun m i=>∃k:Nat,k≤cl n∧i= .int .i64 k∧m= .int .u32 ((2^32-2^(32-k):Nat):Int)) (fun _ i=>32-(intOf i).toNat)
  case atStart=>exact ⟨0,Nat.zero_le _,rfl,rfl⟩
  case round=>
    obtain ⟨k,hk,rfl,rfl⟩:=hrel
    have hcl:=FR n
    by_cases hlt:k<cl n
    · have h1:(k:Int)<n:=by rcases sX n with ⟨_,h⟩ | ⟨_,h⟩ | ⟨_,_,h⟩<;>omega
      have h2:(k:Int)<32:=by omega
      go_wp2
      go_round
      case rel=>exact ⟨k+1,by omega,by go_num,Ct (Av k (by omega))⟩
      case measure=>simp [intOf];omega
    · obtain rfl:k=cl n:=by omega
      have e1:=Lib.hid (show (2^32-2^(32-cl n):Nat)=jg n from rfl)
      by_cases h1:(cl n:Int)<n
      · have h2:¬(cl n:Int)<32:=by rcases sX n with ⟨_,h⟩ | ⟨_,h⟩ | ⟨_,_,h⟩<;>omega
        go_wp2
        go_ret
        exact ⟨rfl,rfl⟩
      · go_wp2
        go_ret
        exact ⟨rfl,rfl⟩

end
--PRLaw
section
open Go.RowKit Go.Sort Go.Shelf

instance (x y:Px):Decidable (c8 x y):=by unfold c8;infer_instance
end
--Pfx4
section
open Go.RowKit

end
--PRRef
section
open Go.RowKit

end
section
open Go.RowKit
set_option maxRecDepth 100000

end
section
open Go.RowKit

end
section
open Go.RowKit
set_option maxRecDepth 100000

end
section
open Go.RowKit
set_option maxRecDepth 100000

end
section
open Go.RowKit Go.Sort Go.Shelf
set_option maxRecDepth 100000

def jh (V:Px→Nat→Value) (p:Px):List Value:= [.int .u32 p.1, .int .i64 p.2,V p 0,V p 1,V p 2,V p 3,V p 4,V p 5]
theorem j8 (V:Px→Nat→Value) (p:Px):(jh V p).length=8:=rfl
set_option maxHeartbeats 400000 in
theorem Aw (V:Px→Nat→Value) (x y:Px) (w:World):
  Calls Try.prog 57 #[.agg #[.int .u32 x.1, .int .i64 x.2,V x 0,V x 1,V x 2,V x 3,V x 4,V x 5], .agg #[.int .u32 y.1, .int .i64 y.2,V y 0,V y 1,V y 2,V y 3,V y 4,V y 5]] w fun e w' =>e= .returned (.int .i64 (j7 x y))∧Gd w w' :=by
 have HC:=Lib.hid fun W=>FP x.1 x.2 y.1 y.2 W
 go_enter Try.func57,Try.ntmps57
 go_wp2_with fail
 refine (HC.out _).mono ?_;rintro e w1 ⟨rfl,hb⟩
 go_wp2
 go_ret
 exact ⟨rfl,(((Gd.refl w).alloc _).alloc _).trans hb⟩
end
section
open Go.RowKit Go.Sort Go.Shelf
set_option maxRecDepth 100000

abbrev sY:=56
def qH (a n:Int) (m:Nat) (x:AtV) (g:Bool):List TV:= [.val (.int .u32 a), .val (.int .i64 n), .val (.int .i64 x.o), .vec 1 (iV x.p) (.arg m), .val (.int .u32 x.h), .val (.int .i64 x.m), .val (.bool x.hm), .val (.bool g)]
def fP (m:Nat) (R:Px→AtV × Bool) (p:Px):List TV:=qH p.1 p.2 m (R p).1 (R p).2
theorem mV (m:Nat) (R:Px→AtV × Bool) (p:Px):(fP m R p).length=8:=rfl
def iN (ks:List Px) (us:List Value) (p:Px) (j:Nat):Value:=if p∈ks then (us[ks.idxOf p*8+(j+2)]?).getD (.bool false) else .bool false
theorem FT (V:Px→Nat→Value) (blk off size:Nat) (w:World):CmpLays Try.prog 57 #[] (jh V) 8 j7 blk off size w:=
 fun _ _ _ _ x y=>(Aw V x y _).mono fun _ _ ⟨he,hg⟩=>⟨he,hg.grow⟩
theorem qI {p:Px}:∀{ks:List Px} {i:Nat},ks.Nodup→ks[i]?=some p→ks.idxOf p=i
 | [],_,_,h=>by simp at h
 | a::l,0,_,h=>by
  simp at h;subst h
  exact List.idxOf_cons_self
 | a::l,i+1,hn,h=>by
  have h' :l[i]?=some p:=by simpa using h
  have hm:p∈l:=List.mem_of_getElem? h'
  have hne:a≠p:=fun e=>(List.nodup_cons.1 hn).1 (e▸hm)
  rw [List.idxOf_cons,qI (List.nodup_cons.1 hn).2 h']
  rw [show (a==p)=false by simpa using hne]
  rfl
theorem Eh {m:Nat} {g:Gh} {w:World} {R:Px→AtV × Bool} {ks:List Px} {us:List Value} (hn:ks.Nodup) (hl:ks.length*8≤us.length) (h:VRs g w (ks.flatMap (fP m R)) (us.take (ks.length*8))) {i:Nat} {p:Px} (hp:ks[i]?=some p):
  VRs g w (fP m R p) (jh (iN ks us) p)∧(us.drop (i*8)).take 8=jh (iN ks us) p:=by
 obtain ⟨hi,hpi⟩:=List.getElem?_eq_some_iff.1 hp
 have hm:p∈ks:=by rw [←hpi];exact List.getElem_mem hi
 have hx:ks.idxOf p=i:=qI hn hp
 have hs:(ks.flatMap (fP m R)).drop (i*8)=fP m R p++(ks.drop (i+1)).flatMap (fP m R):=by
  have:∀(l:List Px) (i:Nat),l[i]?=some p→(l.flatMap (fP m R)).drop (i*8)=fP m R p++(l.drop (i+1)).flatMap (fP m R):=by
   intro l
   induction l with
   | nil=>intro i h;simp at h
   | cons a l ih=>
    intro i h
    cases i with
    | zero=>
     simp at h;subst h
     rw [List.flatMap_cons];rfl
    | succ i=>
     rw [List.flatMap_cons,show (i+1)*8=(fP m R a).length+i*8 by rw [mV];omega,List.drop_append,List.drop_of_length_le (by omega),Nat.add_sub_cancel_left,List.nil_append]
     exact ih i (by simpa using h)
  exact this ks i hp
 have h2:=(h.drop (i*8)).take 8
 rw [hs,List.take_left' (mV m R p),List.drop_take,List.take_take,show min 8 (ks.length*8-i*8)=8 by omega] at h2
 have hu:(us.drop (i*8)).take 8=jh (iN ks us) p:=by
  have hl8:((us.drop (i*8)).take 8).length=8:=by rw [h2.1];rfl
  have hg:∀j,j<8→((us.drop (i*8)).take 8)[j]?=us[i*8+j]?:=fun j hj=>by
   rw [List.getElem?_take,if_pos hj,List.getElem?_drop]
  have hin:∀j,j<8→i*8+j<us.length:=fun j hj=>by omega
  have hval:∀(j:Nat) (v:Value) (hj:j<8),(fP m R p)[j]?=some (.val v)→us[i*8+j]'(hin j hj)=v:=fun j v hj hc=>by
   have:=h2.2 j (.val v) (us[i*8+j]'(hin j hj)) hc (by rw [hg j hj,List.getElem?_eq_getElem (hin j hj)])
   generalize us[i*8+j]'(hin j hj)=u at this
   cases this;rfl
  have hV:∀j (hj:j+2<8),iN ks us p j=us[i*8+(j+2)]'(hin _ hj):=fun j hj=>by
   unfold iN
   rw [if_pos hm,hx,List.getElem?_eq_getElem (hin _ hj)];rfl
  apply List.ext_getElem?
  intro j
  by_cases hj:j<8
  ·rw [hg j hj,List.getElem?_eq_getElem (hin j hj)]
   match j,hj with
   | 0,_=>rw [hval 0 (.int .u32 p.1) (by omega) rfl];rfl
   | 1,_=>rw [hval 1 (.int .i64 p.2) (by omega) rfl];rfl
   | 2,_=>rw [←hV 0 (by omega)];rfl
   | 3,_=>rw [←hV 1 (by omega)];rfl
   | 4,_=>rw [←hV 2 (by omega)];rfl
   | 5,_=>rw [←hV 3 (by omega)];rfl
   | 6,_=>rw [←hV 4 (by omega)];rfl
   | 7,_=>rw [←hV 5 (by omega)];rfl
  ·rw [List.getElem?_eq_none (by omega),List.getElem?_eq_none (by show 8≤j;omega)]
 exact ⟨hu▸h2,hu⟩
theorem uR {enc:Px→List Value}:∀(ks:List Px) (us:List Value),(∀i p,ks[i]?=some p→(us.drop (i*8)).take 8=enc p)→us.take (ks.length*8)=ks.flatMap enc
 | [],us,_=>by simp
 | a::l,us,h=>by
  rw [List.flatMap_cons,←h 0 a rfl,←uR l (us.drop 8) (fun i p hp=>by
   have:=h (i+1) p (by simpa using hp)
   rw [show (i+1)*8=8+i*8 by omega] at this
   rw [List.drop_drop];exact this)]
  rw [List.length_cons,show (l.length+1)*8=8+l.length*8 by omega,List.take_add];rfl
theorem yl {G:ax} (m:Nat) (R:Px→AtV × Bool) (ks:List Px) (hn:ks.Nodup) (hl:ks.length<4611686018427387904):VCx Try.prog G 0 sY [.row 8 0 0 ks.length, .fn (.func 57) [] []] ⟨[.row (ks.map (fP m R)).flatten], []⟩ fun x T' =>x= .val (.tuple #[])∧T' =⟨[.row ((gC ks).map (fP m R)).flatten], []⟩:=by
 rw [←List.flatMap_def,←List.flatMap_def]
 intro g w us r hG hx
 match us,hx.1 with
 | [u,f],_=>
  obtain ⟨b,c,f1,f2,f3,f4,f5,rfl⟩:=(hx.2 0 _ u rfl rfl).row_inv
  obtain ⟨us,vs,rfl,h3,h4⟩:=(hx.2 1 _ f rfl rfl).fn_inv
  have e3:us= []:=List.eq_nil_of_length_eq_zero h3.1
  have e4:vs= []:=List.eq_nil_of_length_eq_zero h4.1
  subst e3 e4
  obtain ⟨b',q1,⟨us,ty,q2,q3,q4,q5⟩,_⟩:=r.obj 0 _ rfl rfl
  rw [f1] at q1;injection q1 with q1;subst q1
  have hfix:∀(T' :VT) (w' :World),T'.objs.length=1→Fix 0 g ⟨[.row (ks.flatMap (fP m R))], []⟩ w T' w' :=fun T' w' h=>⟨by simp [h],fun i hi=>absurd hi (Nat.not_lt_zero i),fun i o b hi=>absurd hi (Nat.not_lt_zero i)⟩
  rcases Nat.eq_zero_or_pos ks.length with h0 | hpos
  ·have:ks= []:=List.eq_nil_of_length_eq_zero h0
   subst this
   refine (AnyF.slices_SortFunc_none Try.sortCh (some ⟨b,0*8,none⟩) c _ w).mono fun e w' ⟨he,hw⟩=> ?_
   subst hw
   exact ⟨.tuple #[],_,g,_,he,⟨rfl,by simp [gC]⟩,Evo.refl _ _,r, .val _,hfix _ _ rfl⟩
  ·have hcs:=aL q2
   rw [List.size_toArray] at hcs
   have hul:us.length=c*8:=by rw [←hcs,←f5];omega
   have hlen:(ks.flatMap (fP m R)).length=ks.length*8:=lW (fP m R) 8 (mV m R) ks
   rw [hlen] at q3 q4 q5
   have hrow:=fun i p (hp:ks[i]?=some p)=>Eh (m:=m) (R:=R) hn q3 q4 hp
   have htk:us.take (ks.length*8)=ks.flatMap (jh (iN ks us)):=uR ks us fun i p hp=>(hrow i p hp).2
   have hone:∀x,∀v∈jh (iN ks us) x,v.oneCell' =true:=fun x v hv=>by
    by_cases hm:x∈ks
    ·refine q5 v ?_
     rw [htk]
     exact List.mem_flatMap.2 ⟨x,hm,hv⟩
    ·simp only [jh,iN,if_neg hm,List.mem_cons,List.not_mem_nil,or_false] at hv
     rcases hv with rfl | rfl | rfl | rfl | rfl | rfl | rfl | rfl<;>rfl
   have hown:w.ownsRow 0 ty 8 (.slice (some ⟨b,0,none⟩) ks.toArray.size c) ks.toArray.size (ks.toArray.toList.flatMap (jh (iN ks us))):=by
    refine ⟨by simp [nv (jh (iN ks us)) 8 (j8 _)], .inr ⟨b,c,us.toArray,by simp,Nat.zero_le _,q2,by simpa using f3,f4,by simpa using hul, ?_⟩⟩
    simpa [nv (jh (iN ks us)) 8 (j8 _)] using htk
   obtain ⟨g',cap',hv,hb',hg',hH⟩:=wL (jh (iN ks us)) 8 (j8 _) ks.toArray hown (by simpa using hpos)
   injection hv with p1 _ p3
   injection p1 with p1;injection p1 with p1
   subst p1 p3
   have hs:ks.toArray.size<4611686018427387904:=by simpa using hl
   have eg:∀args w,(callFunc 57 args).run Try.prog w= .ok (.enter 57 args) w:=enters_of Try.func57 (by kernel_rfl) rfl
   have hcon:=AnyQ.slices_SortFunc_total Try.sortCh 8 Try.isAgg34 Try.sizeOf34 (jh (iN ks us)) (j8 _) hone j7 Ee 57 #[] b 0 c ks.toArray w eg (FT (iN ks us) b 0 _ w) hH hg' hs As
   refine Calls.mono hcon fun _ _ ⟨he,n,os,hw⟩=> ?_
   obtain ⟨e1,r1⟩:=xE (fP m R) (jh (iN ks us)) 8 (mV m R) (j8 _) hone (l:=ks) (l' :=gC ks) (List.mergeSort_perm _ _) r rfl f1 (fun p hm=>by
    obtain ⟨i,hi,hp⟩:=List.getElem_of_mem hm
    exact (hrow i p (by rw [List.getElem?_eq_getElem hi,hp])).1) hw
   exact ⟨.tuple #[],_,g,_,he,⟨rfl,rfl⟩,e1,r1, .val _,hfix _ _ rfl⟩
end

end Go.Proofs.Ytnfplefcghadfaa