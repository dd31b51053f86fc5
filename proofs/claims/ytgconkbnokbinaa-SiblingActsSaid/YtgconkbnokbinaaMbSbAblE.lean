/- Siblings: what the kernel leaves of able's rounds. -/
import Derived.Test.YtgconkbnokbinaaMbSbAble
namespace Go.Proofs.Ytgconkbnokbinaa
open Go.RowKit

abbrev abF := 22
def ablK : List Nat := [0, 1, 4, 5, 10, 11, 12]
def ablV (n : Int) (A L : List (List TV)) (j : Int) : List TV := [.ptr 0 0, .val (.int .i64 n), .val (.slice none 0 0), .vec 3 L (.tail 0 L.length), .vec 3 A .none, .val (.int .i64 A.length), .val (.int .i64 j)]
def sT5 (lk lk2 : Value → Option TV) (es es2 : List (Value × TV × Nat)) (ck ck2 n : Nat) : VT := ⟨[.cells [.map 1, .map 2], .map kI lk es ck, .map kI lk2 es2 ck2], [(n, 3, true)]⟩
def cpW (os : List VO) (i n c : Int) : Spec := fun ro ys T K => (ro = 0 ∧ ys = [.ptr 0 0, .val (.int .i64 i), .val (.int .i64 n)] ∧ T.objs.take 3 = os) ∧ K (.val (.int .i64 c)) T
set_option maxRecDepth 100000 in
theorem ev_abA (lk lk2 : Value → Option TV) (es es2 : List (Value × TV × Nat)) (ck ck2 : Nat) (A L : List (List TV)) (n i a c p : Int) (j : Nat) (Q : Exit → List TV → VT → List Nat → Nat → Prop) : vx Try.prog noGl (specs [(cpF, cpW (sT lk lk2 es es2 ck ck2).objs i n p)]) (tellS [(999998, .dead, none), (14, .elt (siC i a c), none), (25, .vec 3 (L ++ [siC i a c]) (.tail 0 (L.length + 1)), some fun T => { T with tails := [(L.length + 1, 3, true)] })]) 300 noLp none 0 (loopAt Try.prog abF 0) (slotsN 31 ablK (ablV n A L j)) (sT5 lk lk2 es es2 ck ck2 L.length) [] (pickS ablK Q) =
 (bif decide ((↑j : Int) < (↑(List.length A) : Int))
 then (OPure Try.prog (fun _ => .none) (.indexAddr 38 (.tmp 10) (.tmp 12)) [(10, (.vec 3 (A) .none)), (12, (.val (.int .i64 ((↑j : Int)))))] (.elt [(.val (.int .i64 (i))), (.val (.int .u32 (a))), (.val (.int .i64 (c)))]) ∧
 (((@Eq (Nat) 0 0) ∧
 ((@Eq (List TV) [(.ptr 0 0), (.val (.int .i64 (i))), (.val (.int .i64 (n)))] [(.ptr 0 0), (.val (.int .i64 (i))), (.val (.int .i64 (n)))]) ∧
 (@Eq (List VO) [(.cells [(.map 1), (.map 2)]), (.map ⟨false, [(.int .i64)]⟩ (lk) (es) (ck)), (.map ⟨false, [(.int .i64)]⟩ (lk2) (es2) (ck2))] [(.cells [(.map 1), (.map 2)]), (.map ⟨false, [(.int .i64)]⟩ (lk) (es) (ck)), (.map ⟨false, [(.int .i64)]⟩ (lk2) (es2) (ck2))]))) ∧
 (bif decide (p > (0 : Int))
 then (OTurn Try.prog (fun _ => .none) 0 ⟨[(.cells [(.map 1), (.map 2)]), (.map ⟨false, [(.int .i64)]⟩ (lk) (es) (ck)), (.map ⟨false, [(.int .i64)]⟩ (lk2) (es2) (ck2)), (.cells [(.val (.int .i64 (i))), (.val (.int .u32 (a))), (.val (.int .i64 (c)))])], [((List.length L), (3, true))]⟩ (.call ⟨(.builtin .append), #[(.tmp 22), (.tmp 24)], #[38, 38]⟩) [(22, (.vec 3 (L) (.tail 0 (List.length L)))), (24, (.vec 3 [[(.val (.int .i64 (i))), (.val (.int .u32 (a))), (.val (.int .i64 (c)))]] .full))] (.vec 3 (L ++ [siC i a c]) (.tail 0 (List.length L + (1 : Nat)))) ⟨[(.cells [(.map 1), (.map 2)]), (.map ⟨false, [(.int .i64)]⟩ (lk) (es) (ck)), (.map ⟨false, [(.int .i64)]⟩ (lk2) (es2) (ck2)), (.cells [(.val (.int .i64 (i))), (.val (.int .u32 (a))), (.val (.int .i64 (c)))])], [((List.length L + (1 : Nat)), (3, true))]⟩ ∧
 Q .normal [(.ptr 0 0), (.val (.int .i64 (n))), (.val (.slice .none 0 0)), (.vec 3 (L ++ [siC i a c]) (.tail 0 (List.length L + (1 : Nat)))), (.vec 3 (A) .none), (.val (.int .i64 ((↑(List.length A) : Int)))), (.val (.int .i64 (IntKind.wrap IntKind.i64 ((↑j : Int) + (1 : Int)))))] ⟨[(.cells [(.map 1), (.map 2)]), (.map ⟨false, [(.int .i64)]⟩ (lk) (es) (ck)), (.map ⟨false, [(.int .i64)]⟩ (lk2) (es2) (ck2)), (.cells [(.val (.int .i64 (i))), (.val (.int .u32 (a))), (.val (.int .i64 (c)))])], [((List.length L + (1 : Nat)), (3, true))]⟩ [] 31)
 else Q .normal [(.ptr 0 0), (.val (.int .i64 (n))), (.val (.slice .none 0 0)), (.vec 3 (L) (.tail 0 (List.length L))), (.vec 3 (A) .none), (.val (.int .i64 ((↑(List.length A) : Int)))), (.val (.int .i64 (IntKind.wrap IntKind.i64 ((↑j : Int) + (1 : Int)))))] ⟨[(.cells [(.map 1), (.map 2)]), (.map ⟨false, [(.int .i64)]⟩ (lk) (es) (ck)), (.map ⟨false, [(.int .i64)]⟩ (lk2) (es2) (ck2)), (.cells [(.val (.int .i64 (i))), (.val (.int .u32 (a))), (.val (.int .i64 (c)))])], [((List.length L), (3, true))]⟩ [] 31)))
 else Q (.exit 0) [(.ptr 0 0), (.val (.int .i64 (n))), (.val (.slice .none 0 0)), (.vec 3 (L) (.tail 0 (List.length L))), (.vec 3 (A) .none), (.val (.int .i64 ((↑(List.length A) : Int)))), (.val (.int .i64 ((↑j : Int))))] ⟨[(.cells [(.map 1), (.map 2)]), (.map ⟨false, [(.int .i64)]⟩ (lk) (es) (ck)), (.map ⟨false, [(.int .i64)]⟩ (lk2) (es2) (ck2))], [((List.length L), (3, true))]⟩ [] 31) := by kernel_rfl
end Go.Proofs.Ytgconkbnokbinaa
