/- Siblings: what the kernel leaves of the program's table. -/
import Derived.Test.YtgconkbnokbinaaMbSbKeys
import Derived.Test.YtgconkbnokbinaaMb4
namespace Go.Proofs.Ytgconkbnokbinaa
open Go.RowKit

def noGl : Globs := fun _ => none
def noSp : FuncId → Option Spec := fun _ => none
def noLp : Nat → Option (LSpec × Code) := fun _ => none
abbrev adF := 16
abbrev rmF := 19
abbrev rpF := 17
abbrev cpF := 10
abbrev alF := 9
def kI : KS := ⟨false, [.int .i64]⟩
def sT (lk lk2 : Value → Option TV) (es es2 : List (Value × TV × Nat)) (ck ck2 : Nat) : VT := ⟨[.cells [.map 1, .map 2], .map kI lk es ck, .map kI lk2 es2 ck2], []⟩
def siC (i a c : Int) : List TV := [.val (.int .i64 i), .val (.int .u32 a), .val (.int .i64 c)]
def rpC (c u : Int) : List TV := [.val (.int .i64 c), .val (.int .i64 u)]
def sT3 (lk lk2 : Value → Option TV) (es es2 : List (Value × TV × Nat)) (ck ck2 : Nat) : VT := ⟨[.cells [.map 1, .map 2], .map kI lk es ck, .map kI lk2 es2 ck2, .cells [.map 1]], []⟩
def skW (T0 : VT) (ids : List (List TV)) : Spec := fun ro ys T K => (ro = 0 ∧ ys = [.fn (.func mk1F) [] [.ptr 3 0]] ∧ T = T0) ∧ K (.vec 1 ids .none) T
def allK : List Nat := [0, 2, 3, 14, 15, 16]
def allV (ids L : List (List TV)) (j : Int) : List TV := [.ptr 0 0, .val (.slice none 0 0), .vec 3 L (.tail 0 L.length), .vec 1 ids .none, .val (.int .i64 ids.length), .val (.int .i64 j)]
def sT4 (lk lk2 : Value → Option TV) (es es2 : List (Value × TV × Nat)) (ck ck2 n : Nat) : VT := ⟨[.cells [.map 1, .map 2], .map kI lk es ck, .map kI lk2 es2 ck2, .cells [.map 1]], [(n, 3, true)]⟩
def allL (lk lk2 : Value → Option TV) (es es2 : List (Value × TV × Nat)) (ck ck2 : Nat) (ids S : List (List TV)) (c0 : Code) : Nat → Option (LSpec × Code) := specsL [(0, loopL 31 allK [(3, 3)] (allV ids [] 0) (sT4 lk lk2 es es2 ck ck2 0) fun K => K .normal (slotsN 31 allK (allV ids S ids.length)) (sT4 lk lk2 es es2 ck ck2 S.length) [], c0)]
set_option maxRecDepth 100000 in
theorem ev_ad (lk lk2 : Value → Option TV) (es es2 : List (Value × TV × Nat)) (ck ck2 : Nat) (i a c i' a' c' : Int) (b : Bool) (Q : TV → VT → Prop) : vcallF Try.prog noGl noSp (tell [(17, .tup [.agg (siC i' a' c'), .val (.bool b)])]) 300 noLp 0 adF [.ptr 0 0, .agg (siC i a c)] (sT lk lk2 es es2 ck ck2) Q =
 (OLook Try.prog ⟨[(.cells [(.map 1), (.map 2)]), (.map ⟨false, [(.int .i64)]⟩ (lk) (es) (ck)), (.map ⟨false, [(.int .i64)]⟩ (lk2) (es2) (ck2)), (.cells [(.val (.int .i64 (i))), (.val (.int .u32 (a))), (.val (.int .i64 (c)))])], []⟩ 50 (.map 1) (.val (.int .i64 (i))) true (.tup [(.agg [(.val (.int .i64 (i'))), (.val (.int .u32 (a'))), (.val (.int .i64 (c')))]), (.val (.bool (b)))]) ∧
 (bif decide (i ≥ (0 : Int))
 then (bif !decide (i ≤ (255 : Int))
 then Q (.val (.int .i64 2)) ⟨[(.cells [(.map 1), (.map 2)]), (.map ⟨false, [(.int .i64)]⟩ (lk) (es) (ck)), (.map ⟨false, [(.int .i64)]⟩ (lk2) (es2) (ck2)), (.cells [(.val (.int .i64 (i))), (.val (.int .u32 (a))), (.val (.int .i64 (c)))]), (.cells [(.val (.int .i64 (i'))), (.val (.int .u32 (a'))), (.val (.int .i64 (c')))])], []⟩
 else (bif eqRes BinOp.eql (keyEq (Value.int IntKind.u32 a) (Value.int IntKind.u32 (0 : Int)))
 then Q (.val (.int .i64 2)) ⟨[(.cells [(.map 1), (.map 2)]), (.map ⟨false, [(.int .i64)]⟩ (lk) (es) (ck)), (.map ⟨false, [(.int .i64)]⟩ (lk2) (es2) (ck2)), (.cells [(.val (.int .i64 (i))), (.val (.int .u32 (a))), (.val (.int .i64 (c)))]), (.cells [(.val (.int .i64 (i'))), (.val (.int .u32 (a'))), (.val (.int .i64 (c')))])], []⟩
 else (bif decide (c ≥ (0 : Int))
 then (bif !decide (c ≤ (1000000 : Int))
 then Q (.val (.int .i64 2)) ⟨[(.cells [(.map 1), (.map 2)]), (.map ⟨false, [(.int .i64)]⟩ (lk) (es) (ck)), (.map ⟨false, [(.int .i64)]⟩ (lk2) (es2) (ck2)), (.cells [(.val (.int .i64 (i))), (.val (.int .u32 (a))), (.val (.int .i64 (c)))]), (.cells [(.val (.int .i64 (i'))), (.val (.int .u32 (a'))), (.val (.int .i64 (c')))])], []⟩
 else (bif b
 then Q (.val (.int .i64 13)) ⟨[(.cells [(.map 1), (.map 2)]), (.map ⟨false, [(.int .i64)]⟩ (lk) (es) (ck)), (.map ⟨false, [(.int .i64)]⟩ (lk2) (es2) (ck2)), (.cells [(.val (.int .i64 (i))), (.val (.int .u32 (a))), (.val (.int .i64 (c)))]), (.cells [(.val (.int .i64 (i'))), (.val (.int .u32 (a'))), (.val (.int .i64 (c')))])], []⟩
 else (bif decide ((↑(List.length es) : Int) ≥ (8 : Int))
 then Q (.val (.int .i64 6)) ⟨[(.cells [(.map 1), (.map 2)]), (.map ⟨false, [(.int .i64)]⟩ (lk) (es) (ck)), (.map ⟨false, [(.int .i64)]⟩ (lk2) (es2) (ck2)), (.cells [(.val (.int .i64 (i))), (.val (.int .u32 (a))), (.val (.int .i64 (c)))]), (.cells [(.val (.int .i64 (i'))), (.val (.int .u32 (a'))), (.val (.int .i64 (c')))])], []⟩
 else Q (.val (.int .i64 0)) ⟨[(.cells [(.map 1), (.map 2)]), (.map ⟨false, [(.int .i64)]⟩ (fun kk => (bif keyEq (Value.int IntKind.i64 i) kk then (.some (.agg [(.val (.int .i64 (i))), (.val (.int .u32 (a))), (.val (.int .i64 (c)))])) else (lk kk))) (mput (.int .i64 (i)) (.agg [(.val (.int .i64 (i))), (.val (.int .u32 (a))), (.val (.int .i64 (c)))]) (ck) (es)) (match lk (Value.int IntKind.i64 i) with
| some val => ck
| none => ck + (1 : Nat))), (.map ⟨false, [(.int .i64)]⟩ (lk2) (es2) (ck2)), (.cells [(.val (.int .i64 (i))), (.val (.int .u32 (a))), (.val (.int .i64 (c)))]), (.cells [(.val (.int .i64 (i'))), (.val (.int .u32 (a'))), (.val (.int .i64 (c')))])], []⟩)))
 else Q (.val (.int .i64 2)) ⟨[(.cells [(.map 1), (.map 2)]), (.map ⟨false, [(.int .i64)]⟩ (lk) (es) (ck)), (.map ⟨false, [(.int .i64)]⟩ (lk2) (es2) (ck2)), (.cells [(.val (.int .i64 (i))), (.val (.int .u32 (a))), (.val (.int .i64 (c)))]), (.cells [(.val (.int .i64 (i'))), (.val (.int .u32 (a'))), (.val (.int .i64 (c')))])], []⟩)))
 else Q (.val (.int .i64 2)) ⟨[(.cells [(.map 1), (.map 2)]), (.map ⟨false, [(.int .i64)]⟩ (lk) (es) (ck)), (.map ⟨false, [(.int .i64)]⟩ (lk2) (es2) (ck2)), (.cells [(.val (.int .i64 (i))), (.val (.int .u32 (a))), (.val (.int .i64 (c)))]), (.cells [(.val (.int .i64 (i'))), (.val (.int .u32 (a'))), (.val (.int .i64 (c')))])], []⟩)) := by kernel_rfl
set_option maxRecDepth 100000 in
theorem ev_rm (lk lk2 : Value → Option TV) (es es2 : List (Value × TV × Nat)) (ck ck2 : Nat) (i i' a' c' : Int) (b : Bool) (Q : TV → VT → Prop) : vcallF Try.prog noGl noSp (tellS [(16, .tup [.agg (siC i' a' c'), .val (.bool b)], some fun T => T)]) 300 noLp 0 rmF [.ptr 0 0, .val (.int .i64 i)] (sT lk lk2 es es2 ck ck2) Q =
 (OTurn Try.prog (fun _ => .none) 0 ⟨[(.cells [(.map 1), (.map 2)]), (.map ⟨false, [(.int .i64)]⟩ (lk) (es) (ck)), (.map ⟨false, [(.int .i64)]⟩ (lk2) (es2) (ck2))], []⟩ (.lookup 50 (.tmp 14) (.tmp 15) true) [(14, (.map 1)), (15, (.val (.int .i64 (i))))] (.tup [(.agg [(.val (.int .i64 (i'))), (.val (.int .u32 (a'))), (.val (.int .i64 (c')))]), (.val (.bool (b)))]) ⟨[(.cells [(.map 1), (.map 2)]), (.map ⟨false, [(.int .i64)]⟩ (lk) (es) (ck)), (.map ⟨false, [(.int .i64)]⟩ (lk2) (es2) (ck2))], []⟩ ∧
 Q (.val (.bool (b))) ⟨[(.cells [(.map 1), (.map 2)]), (.map ⟨false, [(.int .i64)]⟩ (fun kk => (bif keyEq (Value.int IntKind.i64 i) kk then .none else (lk kk))) (mdel (Value.int IntKind.i64 i) es) (ck)), (.map ⟨false, [(.int .i64)]⟩ (fun kk => (bif keyEq (Value.int IntKind.i64 i) kk then .none else (lk2 kk))) (mdel (Value.int IntKind.i64 i) es2) (ck2)), (.cells [(.val (.int .i64 (i'))), (.val (.int .u32 (a'))), (.val (.int .i64 (c')))])], []⟩) := by kernel_rfl
set_option maxRecDepth 100000 in
theorem ev_rp (lk lk2 : Value → Option TV) (es es2 : List (Value × TV × Nat)) (ck ck2 : Nat) (i c u i' a' c' : Int) (b : Bool) (Q : TV → VT → Prop) : vcallF Try.prog noGl noSp (tellS [(20, .tup [.agg (siC i' a' c'), .val (.bool b)], some fun T => T)]) 300 noLp 0 rpF [.ptr 0 0, .val (.int .i64 i), .val (.int .i64 c), .val (.int .i64 u)] (sT lk lk2 es es2 ck ck2) Q =
 (OTurn Try.prog (fun _ => .none) 0 ⟨[(.cells [(.map 1), (.map 2)]), (.map ⟨false, [(.int .i64)]⟩ (lk) (es) (ck)), (.map ⟨false, [(.int .i64)]⟩ (lk2) (es2) (ck2))], []⟩ (.lookup 50 (.tmp 18) (.tmp 19) true) [(18, (.map 1)), (19, (.val (.int .i64 (i))))] (.tup [(.agg [(.val (.int .i64 (i'))), (.val (.int .u32 (a'))), (.val (.int .i64 (c')))]), (.val (.bool (b)))]) ⟨[(.cells [(.map 1), (.map 2)]), (.map ⟨false, [(.int .i64)]⟩ (lk) (es) (ck)), (.map ⟨false, [(.int .i64)]⟩ (lk2) (es2) (ck2))], []⟩ ∧
 (bif !b
 then Q (.val (.int .i64 7)) ⟨[(.cells [(.map 1), (.map 2)]), (.map ⟨false, [(.int .i64)]⟩ (lk) (es) (ck)), (.map ⟨false, [(.int .i64)]⟩ (lk2) (es2) (ck2)), (.cells [(.val (.int .i64 (i'))), (.val (.int .u32 (a'))), (.val (.int .i64 (c')))])], []⟩
 else (bif decide (c ≥ (0 : Int))
 then (bif !decide (c ≤ (1000000 : Int))
 then Q (.val (.int .i64 2)) ⟨[(.cells [(.map 1), (.map 2)]), (.map ⟨false, [(.int .i64)]⟩ (lk) (es) (ck)), (.map ⟨false, [(.int .i64)]⟩ (lk2) (es2) (ck2)), (.cells [(.val (.int .i64 (i'))), (.val (.int .u32 (a'))), (.val (.int .i64 (c')))])], []⟩
 else (bif decide (u ≥ (0 : Int))
 then (bif !decide (u ≤ (1099511627776 : Int))
 then Q (.val (.int .i64 2)) ⟨[(.cells [(.map 1), (.map 2)]), (.map ⟨false, [(.int .i64)]⟩ (lk) (es) (ck)), (.map ⟨false, [(.int .i64)]⟩ (lk2) (es2) (ck2)), (.cells [(.val (.int .i64 (i'))), (.val (.int .u32 (a'))), (.val (.int .i64 (c')))])], []⟩
 else Q (.val (.int .i64 0)) ⟨[(.cells [(.map 1), (.map 2)]), (.map ⟨false, [(.int .i64)]⟩ (lk) (es) (ck)), (.map ⟨false, [(.int .i64)]⟩ (fun kk => (bif keyEq (Value.int IntKind.i64 i) kk then (.some (.agg [(.val (.int .i64 (c))), (.val (.int .i64 (u)))])) else (lk2 kk))) (mput (.int .i64 (i)) (.agg [(.val (.int .i64 (c))), (.val (.int .i64 (u)))]) (ck2) (es2)) (match lk2 (Value.int IntKind.i64 i) with
| some val => ck2
| none => ck2 + (1 : Nat))), (.cells [(.val (.int .i64 (i'))), (.val (.int .u32 (a'))), (.val (.int .i64 (c')))])], []⟩)
 else Q (.val (.int .i64 2)) ⟨[(.cells [(.map 1), (.map 2)]), (.map ⟨false, [(.int .i64)]⟩ (lk) (es) (ck)), (.map ⟨false, [(.int .i64)]⟩ (lk2) (es2) (ck2)), (.cells [(.val (.int .i64 (i'))), (.val (.int .u32 (a'))), (.val (.int .i64 (c')))])], []⟩))
 else Q (.val (.int .i64 2)) ⟨[(.cells [(.map 1), (.map 2)]), (.map ⟨false, [(.int .i64)]⟩ (lk) (es) (ck)), (.map ⟨false, [(.int .i64)]⟩ (lk2) (es2) (ck2)), (.cells [(.val (.int .i64 (i'))), (.val (.int .u32 (a'))), (.val (.int .i64 (c')))])], []⟩))) := by kernel_rfl
set_option maxRecDepth 100000 in
theorem ev_cp (lk lk2 : Value → Option TV) (es es2 : List (Value × TV × Nat)) (ck ck2 : Nat) (i n c' u' : Int) (b : Bool) (Q : TV → VT → Prop) : vcallF Try.prog noGl noSp (tellS [(18, .tup [.agg (rpC c' u'), .val (.bool b)], some fun T => T)]) 300 noLp 0 cpF [.ptr 0 0, .val (.int .i64 i), .val (.int .i64 n)] (sT lk lk2 es es2 ck ck2) Q =
 (OTurn Try.prog (fun _ => .none) 0 ⟨[(.cells [(.map 1), (.map 2)]), (.map ⟨false, [(.int .i64)]⟩ (lk) (es) (ck)), (.map ⟨false, [(.int .i64)]⟩ (lk2) (es2) (ck2))], []⟩ (.lookup 51 (.tmp 16) (.tmp 17) true) [(16, (.map 2)), (17, (.val (.int .i64 (i))))] (.tup [(.agg [(.val (.int .i64 (c'))), (.val (.int .i64 (u')))]), (.val (.bool (b)))]) ⟨[(.cells [(.map 1), (.map 2)]), (.map ⟨false, [(.int .i64)]⟩ (lk) (es) (ck)), (.map ⟨false, [(.int .i64)]⟩ (lk2) (es2) (ck2))], []⟩ ∧
 (bif !b
 then Q (.val (.int .i64 0)) ⟨[(.cells [(.map 1), (.map 2)]), (.map ⟨false, [(.int .i64)]⟩ (lk) (es) (ck)), (.map ⟨false, [(.int .i64)]⟩ (lk2) (es2) (ck2)), (.cells [(.val (.int .i64 (c'))), (.val (.int .i64 (u')))])], []⟩
 else (bif decide (n ≥ u')
 then Q (.val (.int .i64 0)) ⟨[(.cells [(.map 1), (.map 2)]), (.map ⟨false, [(.int .i64)]⟩ (lk) (es) (ck)), (.map ⟨false, [(.int .i64)]⟩ (lk2) (es2) (ck2)), (.cells [(.val (.int .i64 (c'))), (.val (.int .i64 (u')))])], []⟩
 else Q (.val (.int .i64 (c'))) ⟨[(.cells [(.map 1), (.map 2)]), (.map ⟨false, [(.int .i64)]⟩ (lk) (es) (ck)), (.map ⟨false, [(.int .i64)]⟩ (lk2) (es2) (ck2)), (.cells [(.val (.int .i64 (c'))), (.val (.int .i64 (u')))])], []⟩))) := by kernel_rfl
set_option maxRecDepth 100000 in
theorem ev_al (lk lk2 : Value → Option TV) (es es2 : List (Value × TV × Nat)) (ck ck2 : Nat) (ids S : List (List TV)) (Q : TV → VT → Prop) : vcallF Try.prog noGl (specs [(skF, skW (sT3 lk lk2 es es2 ck ck2) ids)]) noOra 300 (allL lk lk2 es es2 ck ck2 ids S (codeAt Try.prog alF 0)) 0 alF [.ptr 0 0] (sT lk lk2 es es2 ck ck2) Q =
 (((@Eq (Nat) 0 0) ∧
 ((@Eq (List TV) [(.fn (.func mk1F) [] [(.ptr 3 0)])] [(.fn (.func mk1F) [] [(.ptr 3 0)])]) ∧
 (@Eq (VT) ⟨[(.cells [(.map 1), (.map 2)]), (.map ⟨false, [(.int .i64)]⟩ (lk) (es) (ck)), (.map ⟨false, [(.int .i64)]⟩ (lk2) (es2) (ck2)), (.cells [(.map 1)])], []⟩ ⟨[(.cells [(.map 1), (.map 2)]), (.map ⟨false, [(.int .i64)]⟩ (lk) (es) (ck)), (.map ⟨false, [(.int .i64)]⟩ (lk2) (es2) (ck2)), (.cells [(.map 1)])], []⟩))) ∧
 ((codeAt Try.prog alF (0 : Nat) = codeAt Try.prog alF (0 : Nat)) ∧
 (((@Eq (Option Nat) .none .none) ∧
 ((@Eq (Nat) 0 0) ∧
 ((@Eq (List Nat) [] []) ∧
 (((@Eq (Option TV) (.some (.val (.slice .none 0 0))) (.some (.val (.slice .none 0 0)))) ∧
 True ) ∧
 ((@Eq (VT) ⟨[(.cells [(.map 1), (.map 2)]), (.map ⟨false, [(.int .i64)]⟩ (lk) (es) (ck)), (.map ⟨false, [(.int .i64)]⟩ (lk2) (es2) (ck2)), (.cells [(.map 1)])], [(0, (3, true))]⟩ ⟨[(.cells [(.map 1), (.map 2)]), (.map ⟨false, [(.int .i64)]⟩ (lk) (es) (ck)), (.map ⟨false, [(.int .i64)]⟩ (lk2) (es2) (ck2)), (.cells [(.map 1)])], [(0, (3, true))]⟩) ∧
 ((@Eq (Bool) true true) ∧
 (@Eq (List TV) [(.ptr 0 0), (.val (.slice .none 0 0)), (.vec 3 [] (.tail 0 0)), (.vec 1 (ids) .none), (.val (.int .i64 ((↑(List.length ids) : Int)))), (.val (.int .i64 0))] [(.ptr 0 0), (.val (.slice .none 0 0)), (.vec 3 [] (.tail 0 0)), (.vec 1 (ids) .none), (.val (.int .i64 ((↑(List.length ids) : Int)))), (.val (.int .i64 0))]))))))) ∧
 Q (.vec 3 (S) (.tail 0 (List.length S))) ⟨[(.cells [(.map 1), (.map 2)]), (.map ⟨false, [(.int .i64)]⟩ (lk) (es) (ck)), (.map ⟨false, [(.int .i64)]⟩ (lk2) (es2) (ck2)), (.cells [(.map 1)])], [((List.length S), (3, true))]⟩))) := by kernel_rfl
set_option maxRecDepth 100000 in
theorem ev_alA (lk lk2 : Value → Option TV) (es es2 : List (Value × TV × Nat)) (ck ck2 : Nat) (ids L : List (List TV)) (z i a c : Int) (j : Nat) (Q : Exit → List TV → VT → List Nat → Nat → Prop) : vx Try.prog noGl noSp (tellS [(999998, .dead, none), (18, .elt [.val (.int .i64 z)], none), (26, .agg (siC i a c), some fun T => T), (28, .vec 3 (L ++ [siC i a c]) (.tail 0 (L.length + 1)), some fun T => { T with tails := [(L.length + 1, 3, true)] })]) 300 noLp none 0 (loopAt Try.prog alF 0) (slotsN 31 allK (allV ids L j)) (sT4 lk lk2 es es2 ck ck2 L.length) [] (pickS allK Q) =
 (bif decide ((↑j : Int) < (↑(List.length ids) : Int))
 then (OPure Try.prog (fun _ => .none) (.indexAddr 58 (.tmp 14) (.tmp 16)) [(14, (.vec 1 (ids) .none)), (16, (.val (.int .i64 ((↑j : Int)))))] (.elt [(.val (.int .i64 (z)))]) ∧
 (OTurn Try.prog (fun _ => .none) 0 ⟨[(.cells [(.map 1), (.map 2)]), (.map ⟨false, [(.int .i64)]⟩ (lk) (es) (ck)), (.map ⟨false, [(.int .i64)]⟩ (lk2) (es2) (ck2)), (.cells [(.map 1)])], [((List.length L), (3, true))]⟩ (.lookup 50 (.tmp 24) (.tmp 25) false) [(24, (.map 1)), (25, (.val (.int .i64 (z))))] (.agg [(.val (.int .i64 (i))), (.val (.int .u32 (a))), (.val (.int .i64 (c)))]) ⟨[(.cells [(.map 1), (.map 2)]), (.map ⟨false, [(.int .i64)]⟩ (lk) (es) (ck)), (.map ⟨false, [(.int .i64)]⟩ (lk2) (es2) (ck2)), (.cells [(.map 1)])], [((List.length L), (3, true))]⟩ ∧
 (OTurn Try.prog (fun _ => .none) 0 ⟨[(.cells [(.map 1), (.map 2)]), (.map ⟨false, [(.int .i64)]⟩ (lk) (es) (ck)), (.map ⟨false, [(.int .i64)]⟩ (lk2) (es2) (ck2)), (.cells [(.map 1)])], [((List.length L), (3, true))]⟩ (.call ⟨(.builtin .append), #[(.tmp 20), (.tmp 27)], #[38, 38]⟩) [(20, (.vec 3 (L) (.tail 0 (List.length L)))), (27, (.vec 3 [[(.val (.int .i64 (i))), (.val (.int .u32 (a))), (.val (.int .i64 (c)))]] .full))] (.vec 3 (L ++ [siC i a c]) (.tail 0 (List.length L + (1 : Nat)))) ⟨[(.cells [(.map 1), (.map 2)]), (.map ⟨false, [(.int .i64)]⟩ (lk) (es) (ck)), (.map ⟨false, [(.int .i64)]⟩ (lk2) (es2) (ck2)), (.cells [(.map 1)])], [((List.length L + (1 : Nat)), (3, true))]⟩ ∧
 Q .normal [(.ptr 0 0), (.val (.slice .none 0 0)), (.vec 3 (L ++ [siC i a c]) (.tail 0 (List.length L + (1 : Nat)))), (.vec 1 (ids) .none), (.val (.int .i64 ((↑(List.length ids) : Int)))), (.val (.int .i64 (IntKind.wrap IntKind.i64 ((↑j : Int) + (1 : Int)))))] ⟨[(.cells [(.map 1), (.map 2)]), (.map ⟨false, [(.int .i64)]⟩ (lk) (es) (ck)), (.map ⟨false, [(.int .i64)]⟩ (lk2) (es2) (ck2)), (.cells [(.map 1)])], [((List.length L + (1 : Nat)), (3, true))]⟩ [] 31)))
 else Q (.exit 0) [(.ptr 0 0), (.val (.slice .none 0 0)), (.vec 3 (L) (.tail 0 (List.length L))), (.vec 1 (ids) .none), (.val (.int .i64 ((↑(List.length ids) : Int)))), (.val (.int .i64 ((↑j : Int))))] ⟨[(.cells [(.map 1), (.map 2)]), (.map ⟨false, [(.int .i64)]⟩ (lk) (es) (ck)), (.map ⟨false, [(.int .i64)]⟩ (lk2) (es2) (ck2)), (.cells [(.map 1)])], [((List.length L), (3, true))]⟩ [] 31) := by kernel_rfl
end Go.Proofs.Ytgconkbnokbinaa
