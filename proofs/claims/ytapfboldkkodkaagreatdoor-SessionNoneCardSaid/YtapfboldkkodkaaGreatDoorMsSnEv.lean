/- SessionNone: what the kernel leaves. -/
import Derived.Test.YtapfboldkkodkaaGreatDoorMsSnLv
import Derived.Test.YtapfboldkkodkaaGreatDoorMs4
namespace Go.Proofs.YtapfboldkkodkaaGreatDoor
open Go.ChangeShapes Go.WideShapes Go.ChangeAt Go.RowKit Go.Joins Go.Deep

abbrev lightF := 27
def snA (k n m0 m1 m2 m3 m6 m8 m9 m12 m13 : Int) (B caps wd pa nl da : List (List TV)) (hm : Bool) : List TV := [.val (.int .i64 k), .val (.int .i64 n), .vec 1 B .none, .val (.int .i64 m0), .val (.int .i64 m1), .val (.int .i64 m2), .val (.int .u32 m3), .vec 2 caps .none, .vec 2 wd .none, .val (.int .i64 m6), .vec 1 pa .none, .val (.int .u32 m8), .val (.int .i64 m9), .val (.bool hm), .vec 2 nl .none, .val (.int .i64 m12), .val (.int .i64 m13), .vec 1 da .none]
def snK : List Nat := [2, 11, 12, 13, 76, 77, 78]
def snV (a : List TV) (caps : List (List TV)) (j : Int) : List TV := [.val (.bool false), .vec 18 [a] .none, .val (.int .i64 1), .val (.int .i64 0), .vec 2 caps .none, .val (.int .i64 caps.length), .val (.int .i64 j)]
def snL (a : List TV) (caps : List (List TV)) (c0 : Code) : Nat → Option (LSpec × Code) := specsL [(2, loopL 88 snK [] (snV a caps 0) ⟨[.cells a], []⟩ fun K => K .normal (slotsN 88 snK (snV a caps caps.length)) ⟨[.cells a], []⟩ [] ∧ ∀ (j : Int) (x : VO), K .ret (slotsN 88 snK (snV a caps j)) ⟨[.cells a, x], []⟩ [], c0)]
def lightW (a : List TV) : Spec := fun _ ys T K => ys.map looseTV = [.vec 18 [a] .none] ∧ K (.val (.bool true)) T ∧ K (.val (.bool false)) T
set_option maxRecDepth 100000 in
theorem ev_light (k n m0 m1 m2 m3 m6 m8 m9 m12 m13 : Int) (B caps wd pa nl da : List (List TV)) (hm : Bool) (Q : TV → VT → Prop) : vcallF Tryz.prog leastG (fun _ => none) noOra 300 (snL (snA k n m0 m1 m2 m3 m6 m8 m9 m12 m13 B caps wd pa nl da hm) caps (codeAt Tryz.prog lightF 2)) 0 lightF [.vec 18 [snA k n m0 m1 m2 m3 m6 m8 m9 m12 m13 B caps wd pa nl da hm] .none] ⟨[],[]⟩ Q =
 (bif decide (IntKind.wrap IntKind.i64 ((0 : Int) + IntKind.wrap IntKind.i64 ((↑(List.length B) : Int) + (↑(List.length da) : Int))) > (30000 : Int))
 then Q (.val (.bool false)) ⟨[(.cells [(.val (.int .i64 (k))), (.val (.int .i64 (n))), (.vec 1 (B) .none), (.val (.int .i64 (m0))), (.val (.int .i64 (m1))), (.val (.int .i64 (m2))), (.val (.int .u32 (m3))), (.vec 2 (caps) .none), (.vec 2 (wd) .none), (.val (.int .i64 (m6))), (.vec 1 (pa) .none), (.val (.int .u32 (m8))), (.val (.int .i64 (m9))), (.val (.bool (hm))), (.vec 2 (nl) .none), (.val (.int .i64 (m12))), (.val (.int .i64 (m13))), (.vec 1 (da) .none)])], []⟩
 else (bif decide ((↑(List.length caps) : Int) > (50 : Int))
 then Q (.val (.bool false)) ⟨[(.cells [(.val (.int .i64 (k))), (.val (.int .i64 (n))), (.vec 1 (B) .none), (.val (.int .i64 (m0))), (.val (.int .i64 (m1))), (.val (.int .i64 (m2))), (.val (.int .u32 (m3))), (.vec 2 (caps) .none), (.vec 2 (wd) .none), (.val (.int .i64 (m6))), (.vec 1 (pa) .none), (.val (.int .u32 (m8))), (.val (.int .i64 (m9))), (.val (.bool (hm))), (.vec 2 (nl) .none), (.val (.int .i64 (m12))), (.val (.int .i64 (m13))), (.vec 1 (da) .none)])], []⟩
 else (bif decide ((↑(List.length nl) : Int) > (900 : Int))
 then Q (.val (.bool false)) ⟨[(.cells [(.val (.int .i64 (k))), (.val (.int .i64 (n))), (.vec 1 (B) .none), (.val (.int .i64 (m0))), (.val (.int .i64 (m1))), (.val (.int .i64 (m2))), (.val (.int .u32 (m3))), (.vec 2 (caps) .none), (.vec 2 (wd) .none), (.val (.int .i64 (m6))), (.vec 1 (pa) .none), (.val (.int .u32 (m8))), (.val (.int .i64 (m9))), (.val (.bool (hm))), (.vec 2 (nl) .none), (.val (.int .i64 (m12))), (.val (.int .i64 (m13))), (.vec 1 (da) .none)])], []⟩
 else (bif decide ((↑(List.length wd) : Int) > (900 : Int))
 then Q (.val (.bool false)) ⟨[(.cells [(.val (.int .i64 (k))), (.val (.int .i64 (n))), (.vec 1 (B) .none), (.val (.int .i64 (m0))), (.val (.int .i64 (m1))), (.val (.int .i64 (m2))), (.val (.int .u32 (m3))), (.vec 2 (caps) .none), (.vec 2 (wd) .none), (.val (.int .i64 (m6))), (.vec 1 (pa) .none), (.val (.int .u32 (m8))), (.val (.int .i64 (m9))), (.val (.bool (hm))), (.vec 2 (nl) .none), (.val (.int .i64 (m12))), (.val (.int .i64 (m13))), (.vec 1 (da) .none)])], []⟩
 else (bif decide ((↑(List.length pa) : Int) > (50 : Int))
 then Q (.val (.bool false)) ⟨[(.cells [(.val (.int .i64 (k))), (.val (.int .i64 (n))), (.vec 1 (B) .none), (.val (.int .i64 (m0))), (.val (.int .i64 (m1))), (.val (.int .i64 (m2))), (.val (.int .u32 (m3))), (.vec 2 (caps) .none), (.vec 2 (wd) .none), (.val (.int .i64 (m6))), (.vec 1 (pa) .none), (.val (.int .u32 (m8))), (.val (.int .i64 (m9))), (.val (.bool (hm))), (.vec 2 (nl) .none), (.val (.int .i64 (m12))), (.val (.int .i64 (m13))), (.vec 1 (da) .none)])], []⟩
 else (bif eqRes BinOp.eql (keyEq (Value.int IntKind.i64 k) (Value.int IntKind.i64 (6 : Int)))
 then (bif decide (n > (1000 : Int))
 then Q (.val (.bool false)) ⟨[(.cells [(.val (.int .i64 (k))), (.val (.int .i64 (n))), (.vec 1 (B) .none), (.val (.int .i64 (m0))), (.val (.int .i64 (m1))), (.val (.int .i64 (m2))), (.val (.int .u32 (m3))), (.vec 2 (caps) .none), (.vec 2 (wd) .none), (.val (.int .i64 (m6))), (.vec 1 (pa) .none), (.val (.int .u32 (m8))), (.val (.int .i64 (m9))), (.val (.bool (hm))), (.vec 2 (nl) .none), (.val (.int .i64 (m12))), (.val (.int .i64 (m13))), (.vec 1 (da) .none)])], []⟩
 else ((codeAt Tryz.prog lightF (2 : Nat) = codeAt Tryz.prog lightF (2 : Nat)) ∧
 (((@Eq (Option Nat) .none .none) ∧
 ((@Eq (Nat) 0 0) ∧
 ((@Eq (List Nat) [] []) ∧
 (True  ∧
 ((@Eq (VT) ⟨[(.cells [(.val (.int .i64 (k))), (.val (.int .i64 (n))), (.vec 1 (B) .none), (.val (.int .i64 (m0))), (.val (.int .i64 (m1))), (.val (.int .i64 (m2))), (.val (.int .u32 (m3))), (.vec 2 (caps) .none), (.vec 2 (wd) .none), (.val (.int .i64 (m6))), (.vec 1 (pa) .none), (.val (.int .u32 (m8))), (.val (.int .i64 (m9))), (.val (.bool (hm))), (.vec 2 (nl) .none), (.val (.int .i64 (m12))), (.val (.int .i64 (m13))), (.vec 1 (da) .none)])], []⟩ ⟨[(.cells [(.val (.int .i64 (k))), (.val (.int .i64 (n))), (.vec 1 (B) .none), (.val (.int .i64 (m0))), (.val (.int .i64 (m1))), (.val (.int .i64 (m2))), (.val (.int .u32 (m3))), (.vec 2 (caps) .none), (.vec 2 (wd) .none), (.val (.int .i64 (m6))), (.vec 1 (pa) .none), (.val (.int .u32 (m8))), (.val (.int .i64 (m9))), (.val (.bool (hm))), (.vec 2 (nl) .none), (.val (.int .i64 (m12))), (.val (.int .i64 (m13))), (.vec 1 (da) .none)])], []⟩) ∧
 ((@Eq (Bool) true true) ∧
 (@Eq (List TV) [(.val (.bool false)), (.vec 18 [[(.val (.int .i64 (k))), (.val (.int .i64 (n))), (.vec 1 (B) .none), (.val (.int .i64 (m0))), (.val (.int .i64 (m1))), (.val (.int .i64 (m2))), (.val (.int .u32 (m3))), (.vec 2 (caps) .none), (.vec 2 (wd) .none), (.val (.int .i64 (m6))), (.vec 1 (pa) .none), (.val (.int .u32 (m8))), (.val (.int .i64 (m9))), (.val (.bool (hm))), (.vec 2 (nl) .none), (.val (.int .i64 (m12))), (.val (.int .i64 (m13))), (.vec 1 (da) .none)]] .none), (.val (.int .i64 1)), (.val (.int .i64 0)), (.vec 2 (caps) .none), (.val (.int .i64 ((↑(List.length caps) : Int)))), (.val (.int .i64 0))] [(.val (.bool false)), (.vec 18 [[(.val (.int .i64 (k))), (.val (.int .i64 (n))), (.vec 1 (B) .none), (.val (.int .i64 (m0))), (.val (.int .i64 (m1))), (.val (.int .i64 (m2))), (.val (.int .u32 (m3))), (.vec 2 (caps) .none), (.vec 2 (wd) .none), (.val (.int .i64 (m6))), (.vec 1 (pa) .none), (.val (.int .u32 (m8))), (.val (.int .i64 (m9))), (.val (.bool (hm))), (.vec 2 (nl) .none), (.val (.int .i64 (m12))), (.val (.int .i64 (m13))), (.vec 1 (da) .none)]] .none), (.val (.int .i64 1)), (.val (.int .i64 0)), (.vec 2 (caps) .none), (.val (.int .i64 ((↑(List.length caps) : Int)))), (.val (.int .i64 0))]))))))) ∧
 (Q (.val (.bool true)) ⟨[(.cells [(.val (.int .i64 (k))), (.val (.int .i64 (n))), (.vec 1 (B) .none), (.val (.int .i64 (m0))), (.val (.int .i64 (m1))), (.val (.int .i64 (m2))), (.val (.int .u32 (m3))), (.vec 2 (caps) .none), (.vec 2 (wd) .none), (.val (.int .i64 (m6))), (.vec 1 (pa) .none), (.val (.int .u32 (m8))), (.val (.int .i64 (m9))), (.val (.bool (hm))), (.vec 2 (nl) .none), (.val (.int .i64 (m12))), (.val (.int .i64 (m13))), (.vec 1 (da) .none)])], []⟩ ∧
 (∀ j : Int, (∀ x : VO, Q (.val (.bool false)) ⟨[(.cells [(.val (.int .i64 (k))), (.val (.int .i64 (n))), (.vec 1 (B) .none), (.val (.int .i64 (m0))), (.val (.int .i64 (m1))), (.val (.int .i64 (m2))), (.val (.int .u32 (m3))), (.vec 2 (caps) .none), (.vec 2 (wd) .none), (.val (.int .i64 (m6))), (.vec 1 (pa) .none), (.val (.int .u32 (m8))), (.val (.int .i64 (m9))), (.val (.bool (hm))), (.vec 2 (nl) .none), (.val (.int .i64 (m12))), (.val (.int .i64 (m13))), (.vec 1 (da) .none)]), (x)], []⟩))))))
 else ((codeAt Tryz.prog lightF (2 : Nat) = codeAt Tryz.prog lightF (2 : Nat)) ∧
 (((@Eq (Option Nat) .none .none) ∧
 ((@Eq (Nat) 0 0) ∧
 ((@Eq (List Nat) [] []) ∧
 (True  ∧
 ((@Eq (VT) ⟨[(.cells [(.val (.int .i64 (k))), (.val (.int .i64 (n))), (.vec 1 (B) .none), (.val (.int .i64 (m0))), (.val (.int .i64 (m1))), (.val (.int .i64 (m2))), (.val (.int .u32 (m3))), (.vec 2 (caps) .none), (.vec 2 (wd) .none), (.val (.int .i64 (m6))), (.vec 1 (pa) .none), (.val (.int .u32 (m8))), (.val (.int .i64 (m9))), (.val (.bool (hm))), (.vec 2 (nl) .none), (.val (.int .i64 (m12))), (.val (.int .i64 (m13))), (.vec 1 (da) .none)])], []⟩ ⟨[(.cells [(.val (.int .i64 (k))), (.val (.int .i64 (n))), (.vec 1 (B) .none), (.val (.int .i64 (m0))), (.val (.int .i64 (m1))), (.val (.int .i64 (m2))), (.val (.int .u32 (m3))), (.vec 2 (caps) .none), (.vec 2 (wd) .none), (.val (.int .i64 (m6))), (.vec 1 (pa) .none), (.val (.int .u32 (m8))), (.val (.int .i64 (m9))), (.val (.bool (hm))), (.vec 2 (nl) .none), (.val (.int .i64 (m12))), (.val (.int .i64 (m13))), (.vec 1 (da) .none)])], []⟩) ∧
 ((@Eq (Bool) true true) ∧
 (@Eq (List TV) [(.val (.bool false)), (.vec 18 [[(.val (.int .i64 (k))), (.val (.int .i64 (n))), (.vec 1 (B) .none), (.val (.int .i64 (m0))), (.val (.int .i64 (m1))), (.val (.int .i64 (m2))), (.val (.int .u32 (m3))), (.vec 2 (caps) .none), (.vec 2 (wd) .none), (.val (.int .i64 (m6))), (.vec 1 (pa) .none), (.val (.int .u32 (m8))), (.val (.int .i64 (m9))), (.val (.bool (hm))), (.vec 2 (nl) .none), (.val (.int .i64 (m12))), (.val (.int .i64 (m13))), (.vec 1 (da) .none)]] .none), (.val (.int .i64 1)), (.val (.int .i64 0)), (.vec 2 (caps) .none), (.val (.int .i64 ((↑(List.length caps) : Int)))), (.val (.int .i64 0))] [(.val (.bool false)), (.vec 18 [[(.val (.int .i64 (k))), (.val (.int .i64 (n))), (.vec 1 (B) .none), (.val (.int .i64 (m0))), (.val (.int .i64 (m1))), (.val (.int .i64 (m2))), (.val (.int .u32 (m3))), (.vec 2 (caps) .none), (.vec 2 (wd) .none), (.val (.int .i64 (m6))), (.vec 1 (pa) .none), (.val (.int .u32 (m8))), (.val (.int .i64 (m9))), (.val (.bool (hm))), (.vec 2 (nl) .none), (.val (.int .i64 (m12))), (.val (.int .i64 (m13))), (.vec 1 (da) .none)]] .none), (.val (.int .i64 1)), (.val (.int .i64 0)), (.vec 2 (caps) .none), (.val (.int .i64 ((↑(List.length caps) : Int)))), (.val (.int .i64 0))]))))))) ∧
 (Q (.val (.bool true)) ⟨[(.cells [(.val (.int .i64 (k))), (.val (.int .i64 (n))), (.vec 1 (B) .none), (.val (.int .i64 (m0))), (.val (.int .i64 (m1))), (.val (.int .i64 (m2))), (.val (.int .u32 (m3))), (.vec 2 (caps) .none), (.vec 2 (wd) .none), (.val (.int .i64 (m6))), (.vec 1 (pa) .none), (.val (.int .u32 (m8))), (.val (.int .i64 (m9))), (.val (.bool (hm))), (.vec 2 (nl) .none), (.val (.int .i64 (m12))), (.val (.int .i64 (m13))), (.vec 1 (da) .none)])], []⟩ ∧
 (∀ j : Int, (∀ x : VO, Q (.val (.bool false)) ⟨[(.cells [(.val (.int .i64 (k))), (.val (.int .i64 (n))), (.vec 1 (B) .none), (.val (.int .i64 (m0))), (.val (.int .i64 (m1))), (.val (.int .i64 (m2))), (.val (.int .u32 (m3))), (.vec 2 (caps) .none), (.vec 2 (wd) .none), (.val (.int .i64 (m6))), (.vec 1 (pa) .none), (.val (.int .u32 (m8))), (.val (.int .i64 (m9))), (.val (.bool (hm))), (.vec 2 (nl) .none), (.val (.int .i64 (m12))), (.val (.int .i64 (m13))), (.vec 1 (da) .none)]), (x)], []⟩))))))))))) := by kernel_rfl
set_option maxRecDepth 100000 in
theorem ev_light2 (a : List TV) (caps bs : List (List TV)) (j : Nat) (c : Int) (Q : Exit → List TV → VT → List Nat → Nat → Prop) : vx Tryz.prog leastG (fun _ => none) (tell [(999999, .dead), (80, .elt [.val (.int .i64 c), .vec 1 bs .none])]) 300 (fun _ => none) none 0 (loopAt Tryz.prog lightF 2) (slotsN 88 snK (snV a caps j)) ⟨[.cells a], []⟩ [] (pickS snK Q) =
 (bif decide ((↑j : Int) < (↑(List.length caps) : Int))
 then (OPure Tryz.prog (fun kk => (bif Nat.beq kk (0 : Nat) then (.some [(.val (.int .i64 0)), (.val (.int .i64 29)), (.val (.int .i64 23)), (.val (.int .i64 21)), (.val (.int .i64 19))]) else .none)) (.indexAddr 85 (.tmp 76) (.tmp 78)) [(76, (.vec 2 (caps) .none)), (78, (.val (.int .i64 ((↑j : Int)))))] (.elt [(.val (.int .i64 (c))), (.vec 1 (bs) .none)]) ∧
 (bif decide ((↑(List.length bs) : Int) > (500 : Int))
 then Q .ret [(.val (.bool false)), (.vec 18 [(a)] .none), (.val (.int .i64 1)), (.val (.int .i64 0)), (.vec 2 (caps) .none), (.val (.int .i64 ((↑(List.length caps) : Int)))), (.val (.int .i64 ((↑j : Int))))] ⟨[(.cells (a)), (.cells [(.val (.int .i64 (c))), (.vec 1 (bs) .none)])], []⟩ [] 88
 else Q .normal [(.val (.bool false)), (.vec 18 [(a)] .none), (.val (.int .i64 1)), (.val (.int .i64 0)), (.vec 2 (caps) .none), (.val (.int .i64 ((↑(List.length caps) : Int)))), (.val (.int .i64 (IntKind.wrap IntKind.i64 ((↑j : Int) + (1 : Int)))))] ⟨[(.cells (a)), (.cells [(.val (.int .i64 (c))), (.vec 1 (bs) .none)])], []⟩ [] 88))
 else Q (.exit 2) [(.val (.bool false)), (.vec 18 [(a)] .none), (.val (.int .i64 1)), (.val (.int .i64 0)), (.vec 2 (caps) .none), (.val (.int .i64 ((↑(List.length caps) : Int)))), (.val (.int .i64 ((↑j : Int))))] ⟨[(.cells (a))], []⟩ [] 88) := by kernel_rfl
set_option maxRecDepth 100000 in
theorem ev_sn (k n m0 m1 m2 m3 m6 m8 m9 m12 m13 : Int) (B caps wd pa nl da : List (List TV)) (hm : Bool) : vcallF Tryz.prog leastG (specs [(lightF, lightW (snA k n m0 m1 m2 m3 m6 m8 m9 m12 m13 B caps wd pa nl da hm)), (28, trueW)]) (tell [(999998, .dead)]) 3000 (fun _ => none) 0 6 [.agg (snA k n m0 m1 m2 m3 m6 m8 m9 m12 m13 B caps wd pa nl da hm)] ⟨[],[]⟩ isTrueV =
 ((@Eq (List TV) [(.vec 18 [[(.val (.int .i64 (k))), (.val (.int .i64 (n))), (.vec 1 (B) .none), (.val (.int .i64 (m0))), (.val (.int .i64 (m1))), (.val (.int .i64 (m2))), (.val (.int .u32 (m3))), (.vec 2 (caps) .none), (.vec 2 (wd) .none), (.val (.int .i64 (m6))), (.vec 1 (pa) .none), (.val (.int .u32 (m8))), (.val (.int .i64 (m9))), (.val (.bool (hm))), (.vec 2 (nl) .none), (.val (.int .i64 (m12))), (.val (.int .i64 (m13))), (.vec 1 (da) .none)]] .none)] [(.vec 18 [[(.val (.int .i64 (k))), (.val (.int .i64 (n))), (.vec 1 (B) .none), (.val (.int .i64 (m0))), (.val (.int .i64 (m1))), (.val (.int .i64 (m2))), (.val (.int .u32 (m3))), (.vec 2 (caps) .none), (.vec 2 (wd) .none), (.val (.int .i64 (m6))), (.vec 1 (pa) .none), (.val (.int .u32 (m8))), (.val (.int .i64 (m9))), (.val (.bool (hm))), (.vec 2 (nl) .none), (.val (.int .i64 (m12))), (.val (.int .i64 (m13))), (.vec 1 (da) .none)]] .none)]) ∧
 ((((@Eq (Option TV) (.some (.val (.int .i64 (n)))) (.some (.val (.int .i64 (n))))) ∧
 ((@Eq (Option TV) (.some (.vec 1 (B) .none)) (.some (.vec 1 (B) .none))) ∧
 True )) ∧
 (((@Eq (Option TV) (.some (.val (.int .i64 (n)))) (.some (.val (.int .i64 (n))))) ∧
 ((@Eq (Option TV) (.some (.vec 1 (B) .none)) (.some (.vec 1 (B) .none))) ∧
 True )) ∧
 ((True  ∧
 True ) ∧
 ((True  ∧
 True ) ∧
 ((True  ∧
 True ) ∧
 ((True  ∧
 True ) ∧
 ((True  ∧
 True ) ∧
 (((@Eq (Option TV) (.some (.val (.int .i64 (n)))) (.some (.val (.int .i64 (n))))) ∧
 ((@Eq (Option TV) (.some (.vec 1 (B) .none)) (.some (.vec 1 (B) .none))) ∧
 True )) ∧
 (((@Eq (Option TV) (.some (.val (.int .i64 (n)))) (.some (.val (.int .i64 (n))))) ∧
 ((@Eq (Option TV) (.some (.vec 1 (B) .none)) (.some (.vec 1 (B) .none))) ∧
 True )) ∧
 ((True  ∧
 True ) ∧
 ((True  ∧
 True ) ∧
 ((True  ∧
 True ) ∧
 ((True  ∧
 True ) ∧
 ((True  ∧
 True ) ∧
 True )))))))))))))) ∧
 True )) := by kernel_rfl
end Go.Proofs.YtapfboldkkodkaaGreatDoor
