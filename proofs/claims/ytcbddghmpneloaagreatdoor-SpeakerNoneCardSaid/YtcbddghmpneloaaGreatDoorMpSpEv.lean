/- SpeakerNone: what the kernel leaves. -/
import Derived.Test.YtcbddghmpneloaaGreatDoorMpSpLv
import Derived.Test.YtcbddghmpneloaaGreatDoorMp4
namespace Go.Proofs.YtcbddghmpneloaaGreatDoor
open Go.ChangeShapes Go.WideShapes Go.ChangeAt Go.RowKit Go.Joins Go.Deep

abbrev lightF := 4
def spA (z0 z1 z2 z3 z4 z5 z8 z10 z11 z14 z15 z17 z18 z19 z21 z22 : Int) (l6 l7 l9 l13 l16 l20 : List (List TV)) (b12 b23 : Bool) : List TV := [.val (.int .i64 z0), .val (.int .i64 z1), .val (.int .i64 z2), .val (.int .i64 z3), .val (.int .i64 z4), .val (.int .u32 z5), .vec 2 l6 .none, .vec 2 l7 .none, .val (.int .i64 z8), .vec 1 l9 .none, .val (.int .u32 z10), .val (.int .i64 z11), .val (.bool b12), .vec 2 l13 .none, .val (.int .i64 z14), .val (.int .i64 z15), .vec 1 l16 .none, .val (.int .u32 z17), .val (.int .i64 z18), .val (.int .i64 z19), .vec 1 l20 .none, .val (.int .u32 z21), .val (.int .i64 z22), .val (.bool b23)]
def spK : List Nat := [2, 11, 12, 13, 79, 80, 81]
def spV (a : List TV) (caps : List (List TV)) (j : Int) : List TV := [.val (.bool false), .vec 24 [a] .none, .val (.int .i64 1), .val (.int .i64 0), .vec 2 caps .none, .val (.int .i64 caps.length), .val (.int .i64 j)]
def spL (a : List TV) (caps : List (List TV)) (c0 : Code) : Nat → Option (LSpec × Code) := specsL [(2, loopL 91 spK [] (spV a caps 0) ⟨[.cells a], []⟩ fun K => K .normal (slotsN 91 spK (spV a caps caps.length)) ⟨[.cells a], []⟩ [] ∧ ∀ (j : Int) (x : VO), K .ret (slotsN 91 spK (spV a caps j)) ⟨[.cells a, x], []⟩ [], c0)]
def lightW (a : List TV) : Spec := fun _ ys T K => ys.map looseTV = [.vec 24 [a] .none] ∧ K (.val (.bool true)) T ∧ K (.val (.bool false)) T
set_option maxRecDepth 100000 in
theorem ev_light (z0 z1 z2 z3 z4 z5 z8 z10 z11 z14 z15 z17 z18 z19 z21 z22 : Int) (l6 l7 l9 l13 l16 l20 : List (List TV)) (b12 b23 : Bool) (Q : TV → VT → Prop) : vcallF Tryz.prog leastG (fun _ => none) noOra 300 (spL (spA z0 z1 z2 z3 z4 z5 z8 z10 z11 z14 z15 z17 z18 z19 z21 z22 l6 l7 l9 l13 l16 l20 b12 b23) l6 (codeAt Tryz.prog lightF 2)) 0 lightF [.vec 24 [spA z0 z1 z2 z3 z4 z5 z8 z10 z11 z14 z15 z17 z18 z19 z21 z22 l6 l7 l9 l13 l16 l20 b12 b23] .none] ⟨[],[]⟩ Q =
 (bif decide (IntKind.wrap IntKind.i64 ((0 : Int) + (↑(List.length l16) : Int)) > (30000 : Int))
 then Q (.val (.bool false)) ⟨[(.cells [(.val (.int .i64 (z0))), (.val (.int .i64 (z1))), (.val (.int .i64 (z2))), (.val (.int .i64 (z3))), (.val (.int .i64 (z4))), (.val (.int .u32 (z5))), (.vec 2 (l6) .none), (.vec 2 (l7) .none), (.val (.int .i64 (z8))), (.vec 1 (l9) .none), (.val (.int .u32 (z10))), (.val (.int .i64 (z11))), (.val (.bool (b12))), (.vec 2 (l13) .none), (.val (.int .i64 (z14))), (.val (.int .i64 (z15))), (.vec 1 (l16) .none), (.val (.int .u32 (z17))), (.val (.int .i64 (z18))), (.val (.int .i64 (z19))), (.vec 1 (l20) .none), (.val (.int .u32 (z21))), (.val (.int .i64 (z22))), (.val (.bool (b23)))])], []⟩
 else (bif decide ((↑(List.length l6) : Int) > (50 : Int))
 then Q (.val (.bool false)) ⟨[(.cells [(.val (.int .i64 (z0))), (.val (.int .i64 (z1))), (.val (.int .i64 (z2))), (.val (.int .i64 (z3))), (.val (.int .i64 (z4))), (.val (.int .u32 (z5))), (.vec 2 (l6) .none), (.vec 2 (l7) .none), (.val (.int .i64 (z8))), (.vec 1 (l9) .none), (.val (.int .u32 (z10))), (.val (.int .i64 (z11))), (.val (.bool (b12))), (.vec 2 (l13) .none), (.val (.int .i64 (z14))), (.val (.int .i64 (z15))), (.vec 1 (l16) .none), (.val (.int .u32 (z17))), (.val (.int .i64 (z18))), (.val (.int .i64 (z19))), (.vec 1 (l20) .none), (.val (.int .u32 (z21))), (.val (.int .i64 (z22))), (.val (.bool (b23)))])], []⟩
 else (bif decide ((↑(List.length l13) : Int) > (300 : Int))
 then Q (.val (.bool false)) ⟨[(.cells [(.val (.int .i64 (z0))), (.val (.int .i64 (z1))), (.val (.int .i64 (z2))), (.val (.int .i64 (z3))), (.val (.int .i64 (z4))), (.val (.int .u32 (z5))), (.vec 2 (l6) .none), (.vec 2 (l7) .none), (.val (.int .i64 (z8))), (.vec 1 (l9) .none), (.val (.int .u32 (z10))), (.val (.int .i64 (z11))), (.val (.bool (b12))), (.vec 2 (l13) .none), (.val (.int .i64 (z14))), (.val (.int .i64 (z15))), (.vec 1 (l16) .none), (.val (.int .u32 (z17))), (.val (.int .i64 (z18))), (.val (.int .i64 (z19))), (.vec 1 (l20) .none), (.val (.int .u32 (z21))), (.val (.int .i64 (z22))), (.val (.bool (b23)))])], []⟩
 else (bif decide ((↑(List.length l7) : Int) > (300 : Int))
 then Q (.val (.bool false)) ⟨[(.cells [(.val (.int .i64 (z0))), (.val (.int .i64 (z1))), (.val (.int .i64 (z2))), (.val (.int .i64 (z3))), (.val (.int .i64 (z4))), (.val (.int .u32 (z5))), (.vec 2 (l6) .none), (.vec 2 (l7) .none), (.val (.int .i64 (z8))), (.vec 1 (l9) .none), (.val (.int .u32 (z10))), (.val (.int .i64 (z11))), (.val (.bool (b12))), (.vec 2 (l13) .none), (.val (.int .i64 (z14))), (.val (.int .i64 (z15))), (.vec 1 (l16) .none), (.val (.int .u32 (z17))), (.val (.int .i64 (z18))), (.val (.int .i64 (z19))), (.vec 1 (l20) .none), (.val (.int .u32 (z21))), (.val (.int .i64 (z22))), (.val (.bool (b23)))])], []⟩
 else (bif decide ((↑(List.length l9) : Int) > (50 : Int))
 then Q (.val (.bool false)) ⟨[(.cells [(.val (.int .i64 (z0))), (.val (.int .i64 (z1))), (.val (.int .i64 (z2))), (.val (.int .i64 (z3))), (.val (.int .i64 (z4))), (.val (.int .u32 (z5))), (.vec 2 (l6) .none), (.vec 2 (l7) .none), (.val (.int .i64 (z8))), (.vec 1 (l9) .none), (.val (.int .u32 (z10))), (.val (.int .i64 (z11))), (.val (.bool (b12))), (.vec 2 (l13) .none), (.val (.int .i64 (z14))), (.val (.int .i64 (z15))), (.vec 1 (l16) .none), (.val (.int .u32 (z17))), (.val (.int .i64 (z18))), (.val (.int .i64 (z19))), (.vec 1 (l20) .none), (.val (.int .u32 (z21))), (.val (.int .i64 (z22))), (.val (.bool (b23)))])], []⟩
 else (bif decide ((↑(List.length l20) : Int) > (50 : Int))
 then Q (.val (.bool false)) ⟨[(.cells [(.val (.int .i64 (z0))), (.val (.int .i64 (z1))), (.val (.int .i64 (z2))), (.val (.int .i64 (z3))), (.val (.int .i64 (z4))), (.val (.int .u32 (z5))), (.vec 2 (l6) .none), (.vec 2 (l7) .none), (.val (.int .i64 (z8))), (.vec 1 (l9) .none), (.val (.int .u32 (z10))), (.val (.int .i64 (z11))), (.val (.bool (b12))), (.vec 2 (l13) .none), (.val (.int .i64 (z14))), (.val (.int .i64 (z15))), (.vec 1 (l16) .none), (.val (.int .u32 (z17))), (.val (.int .i64 (z18))), (.val (.int .i64 (z19))), (.vec 1 (l20) .none), (.val (.int .u32 (z21))), (.val (.int .i64 (z22))), (.val (.bool (b23)))])], []⟩
 else (bif eqRes BinOp.eql (keyEq (Value.int IntKind.i64 z0) (Value.int IntKind.i64 (5 : Int)))
 then (bif decide (z1 > (300 : Int))
 then Q (.val (.bool false)) ⟨[(.cells [(.val (.int .i64 (z0))), (.val (.int .i64 (z1))), (.val (.int .i64 (z2))), (.val (.int .i64 (z3))), (.val (.int .i64 (z4))), (.val (.int .u32 (z5))), (.vec 2 (l6) .none), (.vec 2 (l7) .none), (.val (.int .i64 (z8))), (.vec 1 (l9) .none), (.val (.int .u32 (z10))), (.val (.int .i64 (z11))), (.val (.bool (b12))), (.vec 2 (l13) .none), (.val (.int .i64 (z14))), (.val (.int .i64 (z15))), (.vec 1 (l16) .none), (.val (.int .u32 (z17))), (.val (.int .i64 (z18))), (.val (.int .i64 (z19))), (.vec 1 (l20) .none), (.val (.int .u32 (z21))), (.val (.int .i64 (z22))), (.val (.bool (b23)))])], []⟩
 else ((codeAt Tryz.prog lightF (2 : Nat) = codeAt Tryz.prog lightF (2 : Nat)) ∧
 (((@Eq (Option Nat) .none .none) ∧
 ((@Eq (Nat) 0 0) ∧
 ((@Eq (List Nat) [] []) ∧
 (True  ∧
 ((@Eq (VT) ⟨[(.cells [(.val (.int .i64 (z0))), (.val (.int .i64 (z1))), (.val (.int .i64 (z2))), (.val (.int .i64 (z3))), (.val (.int .i64 (z4))), (.val (.int .u32 (z5))), (.vec 2 (l6) .none), (.vec 2 (l7) .none), (.val (.int .i64 (z8))), (.vec 1 (l9) .none), (.val (.int .u32 (z10))), (.val (.int .i64 (z11))), (.val (.bool (b12))), (.vec 2 (l13) .none), (.val (.int .i64 (z14))), (.val (.int .i64 (z15))), (.vec 1 (l16) .none), (.val (.int .u32 (z17))), (.val (.int .i64 (z18))), (.val (.int .i64 (z19))), (.vec 1 (l20) .none), (.val (.int .u32 (z21))), (.val (.int .i64 (z22))), (.val (.bool (b23)))])], []⟩ ⟨[(.cells [(.val (.int .i64 (z0))), (.val (.int .i64 (z1))), (.val (.int .i64 (z2))), (.val (.int .i64 (z3))), (.val (.int .i64 (z4))), (.val (.int .u32 (z5))), (.vec 2 (l6) .none), (.vec 2 (l7) .none), (.val (.int .i64 (z8))), (.vec 1 (l9) .none), (.val (.int .u32 (z10))), (.val (.int .i64 (z11))), (.val (.bool (b12))), (.vec 2 (l13) .none), (.val (.int .i64 (z14))), (.val (.int .i64 (z15))), (.vec 1 (l16) .none), (.val (.int .u32 (z17))), (.val (.int .i64 (z18))), (.val (.int .i64 (z19))), (.vec 1 (l20) .none), (.val (.int .u32 (z21))), (.val (.int .i64 (z22))), (.val (.bool (b23)))])], []⟩) ∧
 ((@Eq (Bool) true true) ∧
 (@Eq (List TV) [(.val (.bool false)), (.vec 24 [[(.val (.int .i64 (z0))), (.val (.int .i64 (z1))), (.val (.int .i64 (z2))), (.val (.int .i64 (z3))), (.val (.int .i64 (z4))), (.val (.int .u32 (z5))), (.vec 2 (l6) .none), (.vec 2 (l7) .none), (.val (.int .i64 (z8))), (.vec 1 (l9) .none), (.val (.int .u32 (z10))), (.val (.int .i64 (z11))), (.val (.bool (b12))), (.vec 2 (l13) .none), (.val (.int .i64 (z14))), (.val (.int .i64 (z15))), (.vec 1 (l16) .none), (.val (.int .u32 (z17))), (.val (.int .i64 (z18))), (.val (.int .i64 (z19))), (.vec 1 (l20) .none), (.val (.int .u32 (z21))), (.val (.int .i64 (z22))), (.val (.bool (b23)))]] .none), (.val (.int .i64 1)), (.val (.int .i64 0)), (.vec 2 (l6) .none), (.val (.int .i64 ((↑(List.length l6) : Int)))), (.val (.int .i64 0))] [(.val (.bool false)), (.vec 24 [[(.val (.int .i64 (z0))), (.val (.int .i64 (z1))), (.val (.int .i64 (z2))), (.val (.int .i64 (z3))), (.val (.int .i64 (z4))), (.val (.int .u32 (z5))), (.vec 2 (l6) .none), (.vec 2 (l7) .none), (.val (.int .i64 (z8))), (.vec 1 (l9) .none), (.val (.int .u32 (z10))), (.val (.int .i64 (z11))), (.val (.bool (b12))), (.vec 2 (l13) .none), (.val (.int .i64 (z14))), (.val (.int .i64 (z15))), (.vec 1 (l16) .none), (.val (.int .u32 (z17))), (.val (.int .i64 (z18))), (.val (.int .i64 (z19))), (.vec 1 (l20) .none), (.val (.int .u32 (z21))), (.val (.int .i64 (z22))), (.val (.bool (b23)))]] .none), (.val (.int .i64 1)), (.val (.int .i64 0)), (.vec 2 (l6) .none), (.val (.int .i64 ((↑(List.length l6) : Int)))), (.val (.int .i64 0))]))))))) ∧
 (Q (.val (.bool true)) ⟨[(.cells [(.val (.int .i64 (z0))), (.val (.int .i64 (z1))), (.val (.int .i64 (z2))), (.val (.int .i64 (z3))), (.val (.int .i64 (z4))), (.val (.int .u32 (z5))), (.vec 2 (l6) .none), (.vec 2 (l7) .none), (.val (.int .i64 (z8))), (.vec 1 (l9) .none), (.val (.int .u32 (z10))), (.val (.int .i64 (z11))), (.val (.bool (b12))), (.vec 2 (l13) .none), (.val (.int .i64 (z14))), (.val (.int .i64 (z15))), (.vec 1 (l16) .none), (.val (.int .u32 (z17))), (.val (.int .i64 (z18))), (.val (.int .i64 (z19))), (.vec 1 (l20) .none), (.val (.int .u32 (z21))), (.val (.int .i64 (z22))), (.val (.bool (b23)))])], []⟩ ∧
 (∀ j : Int, (∀ x : VO, Q (.val (.bool false)) ⟨[(.cells [(.val (.int .i64 (z0))), (.val (.int .i64 (z1))), (.val (.int .i64 (z2))), (.val (.int .i64 (z3))), (.val (.int .i64 (z4))), (.val (.int .u32 (z5))), (.vec 2 (l6) .none), (.vec 2 (l7) .none), (.val (.int .i64 (z8))), (.vec 1 (l9) .none), (.val (.int .u32 (z10))), (.val (.int .i64 (z11))), (.val (.bool (b12))), (.vec 2 (l13) .none), (.val (.int .i64 (z14))), (.val (.int .i64 (z15))), (.vec 1 (l16) .none), (.val (.int .u32 (z17))), (.val (.int .i64 (z18))), (.val (.int .i64 (z19))), (.vec 1 (l20) .none), (.val (.int .u32 (z21))), (.val (.int .i64 (z22))), (.val (.bool (b23)))]), (x)], []⟩))))))
 else ((codeAt Tryz.prog lightF (2 : Nat) = codeAt Tryz.prog lightF (2 : Nat)) ∧
 (((@Eq (Option Nat) .none .none) ∧
 ((@Eq (Nat) 0 0) ∧
 ((@Eq (List Nat) [] []) ∧
 (True  ∧
 ((@Eq (VT) ⟨[(.cells [(.val (.int .i64 (z0))), (.val (.int .i64 (z1))), (.val (.int .i64 (z2))), (.val (.int .i64 (z3))), (.val (.int .i64 (z4))), (.val (.int .u32 (z5))), (.vec 2 (l6) .none), (.vec 2 (l7) .none), (.val (.int .i64 (z8))), (.vec 1 (l9) .none), (.val (.int .u32 (z10))), (.val (.int .i64 (z11))), (.val (.bool (b12))), (.vec 2 (l13) .none), (.val (.int .i64 (z14))), (.val (.int .i64 (z15))), (.vec 1 (l16) .none), (.val (.int .u32 (z17))), (.val (.int .i64 (z18))), (.val (.int .i64 (z19))), (.vec 1 (l20) .none), (.val (.int .u32 (z21))), (.val (.int .i64 (z22))), (.val (.bool (b23)))])], []⟩ ⟨[(.cells [(.val (.int .i64 (z0))), (.val (.int .i64 (z1))), (.val (.int .i64 (z2))), (.val (.int .i64 (z3))), (.val (.int .i64 (z4))), (.val (.int .u32 (z5))), (.vec 2 (l6) .none), (.vec 2 (l7) .none), (.val (.int .i64 (z8))), (.vec 1 (l9) .none), (.val (.int .u32 (z10))), (.val (.int .i64 (z11))), (.val (.bool (b12))), (.vec 2 (l13) .none), (.val (.int .i64 (z14))), (.val (.int .i64 (z15))), (.vec 1 (l16) .none), (.val (.int .u32 (z17))), (.val (.int .i64 (z18))), (.val (.int .i64 (z19))), (.vec 1 (l20) .none), (.val (.int .u32 (z21))), (.val (.int .i64 (z22))), (.val (.bool (b23)))])], []⟩) ∧
 ((@Eq (Bool) true true) ∧
 (@Eq (List TV) [(.val (.bool false)), (.vec 24 [[(.val (.int .i64 (z0))), (.val (.int .i64 (z1))), (.val (.int .i64 (z2))), (.val (.int .i64 (z3))), (.val (.int .i64 (z4))), (.val (.int .u32 (z5))), (.vec 2 (l6) .none), (.vec 2 (l7) .none), (.val (.int .i64 (z8))), (.vec 1 (l9) .none), (.val (.int .u32 (z10))), (.val (.int .i64 (z11))), (.val (.bool (b12))), (.vec 2 (l13) .none), (.val (.int .i64 (z14))), (.val (.int .i64 (z15))), (.vec 1 (l16) .none), (.val (.int .u32 (z17))), (.val (.int .i64 (z18))), (.val (.int .i64 (z19))), (.vec 1 (l20) .none), (.val (.int .u32 (z21))), (.val (.int .i64 (z22))), (.val (.bool (b23)))]] .none), (.val (.int .i64 1)), (.val (.int .i64 0)), (.vec 2 (l6) .none), (.val (.int .i64 ((↑(List.length l6) : Int)))), (.val (.int .i64 0))] [(.val (.bool false)), (.vec 24 [[(.val (.int .i64 (z0))), (.val (.int .i64 (z1))), (.val (.int .i64 (z2))), (.val (.int .i64 (z3))), (.val (.int .i64 (z4))), (.val (.int .u32 (z5))), (.vec 2 (l6) .none), (.vec 2 (l7) .none), (.val (.int .i64 (z8))), (.vec 1 (l9) .none), (.val (.int .u32 (z10))), (.val (.int .i64 (z11))), (.val (.bool (b12))), (.vec 2 (l13) .none), (.val (.int .i64 (z14))), (.val (.int .i64 (z15))), (.vec 1 (l16) .none), (.val (.int .u32 (z17))), (.val (.int .i64 (z18))), (.val (.int .i64 (z19))), (.vec 1 (l20) .none), (.val (.int .u32 (z21))), (.val (.int .i64 (z22))), (.val (.bool (b23)))]] .none), (.val (.int .i64 1)), (.val (.int .i64 0)), (.vec 2 (l6) .none), (.val (.int .i64 ((↑(List.length l6) : Int)))), (.val (.int .i64 0))]))))))) ∧
 (Q (.val (.bool true)) ⟨[(.cells [(.val (.int .i64 (z0))), (.val (.int .i64 (z1))), (.val (.int .i64 (z2))), (.val (.int .i64 (z3))), (.val (.int .i64 (z4))), (.val (.int .u32 (z5))), (.vec 2 (l6) .none), (.vec 2 (l7) .none), (.val (.int .i64 (z8))), (.vec 1 (l9) .none), (.val (.int .u32 (z10))), (.val (.int .i64 (z11))), (.val (.bool (b12))), (.vec 2 (l13) .none), (.val (.int .i64 (z14))), (.val (.int .i64 (z15))), (.vec 1 (l16) .none), (.val (.int .u32 (z17))), (.val (.int .i64 (z18))), (.val (.int .i64 (z19))), (.vec 1 (l20) .none), (.val (.int .u32 (z21))), (.val (.int .i64 (z22))), (.val (.bool (b23)))])], []⟩ ∧
 (∀ j : Int, (∀ x : VO, Q (.val (.bool false)) ⟨[(.cells [(.val (.int .i64 (z0))), (.val (.int .i64 (z1))), (.val (.int .i64 (z2))), (.val (.int .i64 (z3))), (.val (.int .i64 (z4))), (.val (.int .u32 (z5))), (.vec 2 (l6) .none), (.vec 2 (l7) .none), (.val (.int .i64 (z8))), (.vec 1 (l9) .none), (.val (.int .u32 (z10))), (.val (.int .i64 (z11))), (.val (.bool (b12))), (.vec 2 (l13) .none), (.val (.int .i64 (z14))), (.val (.int .i64 (z15))), (.vec 1 (l16) .none), (.val (.int .u32 (z17))), (.val (.int .i64 (z18))), (.val (.int .i64 (z19))), (.vec 1 (l20) .none), (.val (.int .u32 (z21))), (.val (.int .i64 (z22))), (.val (.bool (b23)))]), (x)], []⟩)))))))))))) := by kernel_rfl
set_option maxRecDepth 100000 in
theorem ev_light2 (a : List TV) (caps bs : List (List TV)) (j : Nat) (c : Int) (Q : Exit → List TV → VT → List Nat → Nat → Prop) : vx Tryz.prog leastG (fun _ => none) (tell [(999999, .dead), (83, .elt [.val (.int .i64 c), .vec 1 bs .none])]) 300 (fun _ => none) none 0 (loopAt Tryz.prog lightF 2) (slotsN 91 spK (spV a caps j)) ⟨[.cells a], []⟩ [] (pickS spK Q) =
 (bif decide ((↑j : Int) < (↑(List.length caps) : Int))
 then (OPure Tryz.prog (fun kk => (bif Nat.beq kk (0 : Nat) then (.some [(.val (.int .i64 0)), (.val (.int .i64 29)), (.val (.int .i64 23)), (.val (.int .i64 21)), (.val (.int .i64 19))]) else .none)) (.indexAddr 23 (.tmp 79) (.tmp 81)) [(79, (.vec 2 (caps) .none)), (81, (.val (.int .i64 ((↑j : Int)))))] (.elt [(.val (.int .i64 (c))), (.vec 1 (bs) .none)]) ∧
 (bif decide ((↑(List.length bs) : Int) > (500 : Int))
 then Q .ret [(.val (.bool false)), (.vec 24 [(a)] .none), (.val (.int .i64 1)), (.val (.int .i64 0)), (.vec 2 (caps) .none), (.val (.int .i64 ((↑(List.length caps) : Int)))), (.val (.int .i64 ((↑j : Int))))] ⟨[(.cells (a)), (.cells [(.val (.int .i64 (c))), (.vec 1 (bs) .none)])], []⟩ [] 91
 else Q .normal [(.val (.bool false)), (.vec 24 [(a)] .none), (.val (.int .i64 1)), (.val (.int .i64 0)), (.vec 2 (caps) .none), (.val (.int .i64 ((↑(List.length caps) : Int)))), (.val (.int .i64 (IntKind.wrap IntKind.i64 ((↑j : Int) + (1 : Int)))))] ⟨[(.cells (a)), (.cells [(.val (.int .i64 (c))), (.vec 1 (bs) .none)])], []⟩ [] 91))
 else Q (.exit 2) [(.val (.bool false)), (.vec 24 [(a)] .none), (.val (.int .i64 1)), (.val (.int .i64 0)), (.vec 2 (caps) .none), (.val (.int .i64 ((↑(List.length caps) : Int)))), (.val (.int .i64 ((↑j : Int))))] ⟨[(.cells (a))], []⟩ [] 91) := by kernel_rfl
set_option maxRecDepth 100000 in
theorem ev_sp (z0 z1 z2 z3 z4 z5 z8 z10 z11 z14 z15 z17 z18 z19 z21 z22 : Int) (l6 l7 l9 l13 l16 l20 : List (List TV)) (b12 b23 : Bool) : vcallF Tryz.prog leastG (specs [(lightF, lightW (spA z0 z1 z2 z3 z4 z5 z8 z10 z11 z14 z15 z17 z18 z19 z21 z22 l6 l7 l9 l13 l16 l20 b12 b23)), (5, trueW)]) (tell [(999998, .dead)]) 3000 (fun _ => none) 0 3 [.agg (spA z0 z1 z2 z3 z4 z5 z8 z10 z11 z14 z15 z17 z18 z19 z21 z22 l6 l7 l9 l13 l16 l20 b12 b23)] ⟨[],[]⟩ isTrueV =
 ((@Eq (List TV) [(.vec 24 [[(.val (.int .i64 (z0))), (.val (.int .i64 (z1))), (.val (.int .i64 (z2))), (.val (.int .i64 (z3))), (.val (.int .i64 (z4))), (.val (.int .u32 (z5))), (.vec 2 (l6) .none), (.vec 2 (l7) .none), (.val (.int .i64 (z8))), (.vec 1 (l9) .none), (.val (.int .u32 (z10))), (.val (.int .i64 (z11))), (.val (.bool (b12))), (.vec 2 (l13) .none), (.val (.int .i64 (z14))), (.val (.int .i64 (z15))), (.vec 1 (l16) .none), (.val (.int .u32 (z17))), (.val (.int .i64 (z18))), (.val (.int .i64 (z19))), (.vec 1 (l20) .none), (.val (.int .u32 (z21))), (.val (.int .i64 (z22))), (.val (.bool (b23)))]] .none)] [(.vec 24 [[(.val (.int .i64 (z0))), (.val (.int .i64 (z1))), (.val (.int .i64 (z2))), (.val (.int .i64 (z3))), (.val (.int .i64 (z4))), (.val (.int .u32 (z5))), (.vec 2 (l6) .none), (.vec 2 (l7) .none), (.val (.int .i64 (z8))), (.vec 1 (l9) .none), (.val (.int .u32 (z10))), (.val (.int .i64 (z11))), (.val (.bool (b12))), (.vec 2 (l13) .none), (.val (.int .i64 (z14))), (.val (.int .i64 (z15))), (.vec 1 (l16) .none), (.val (.int .u32 (z17))), (.val (.int .i64 (z18))), (.val (.int .i64 (z19))), (.vec 1 (l20) .none), (.val (.int .u32 (z21))), (.val (.int .i64 (z22))), (.val (.bool (b23)))]] .none)]) ∧
 ((((@Eq (Option TV) (.some (.agg [(.val (.int .u32 (z17))), (.val (.int .i64 (z18)))])) (.some (.agg [(.val (.int .u32 (z17))), (.val (.int .i64 (z18)))]))) ∧
 ((@Eq (Option TV) (.some (.val (.int .i64 (z1)))) (.some (.val (.int .i64 (z1))))) ∧
 True )) ∧
 (((@Eq (Option TV) (.some (.agg [(.val (.int .u32 (z17))), (.val (.int .i64 (z18)))])) (.some (.agg [(.val (.int .u32 (z17))), (.val (.int .i64 (z18)))]))) ∧
 ((@Eq (Option TV) (.some (.val (.int .i64 (z1)))) (.some (.val (.int .i64 (z1))))) ∧
 True )) ∧
 (((@Eq (Option TV) (.some (.agg [(.val (.int .u32 (z17))), (.val (.int .i64 (z18)))])) (.some (.agg [(.val (.int .u32 (z17))), (.val (.int .i64 (z18)))]))) ∧
 ((@Eq (Option TV) (.some (.val (.int .i64 (z1)))) (.some (.val (.int .i64 (z1))))) ∧
 True )) ∧
 (((@Eq (Option TV) (.some (.agg [(.val (.int .u32 (z17))), (.val (.int .i64 (z18)))])) (.some (.agg [(.val (.int .u32 (z17))), (.val (.int .i64 (z18)))]))) ∧
 ((@Eq (Option TV) (.some (.val (.int .i64 (z1)))) (.some (.val (.int .i64 (z1))))) ∧
 True )) ∧
 ((True  ∧
 ((@Eq (Option TV) (.some (.agg [(.val (.int .u32 (z17))), (.val (.int .i64 (z18)))])) (.some (.agg [(.val (.int .u32 (z17))), (.val (.int .i64 (z18)))]))) ∧
 ((@Eq (Option TV) (.some (.val (.int .i64 (z1)))) (.some (.val (.int .i64 (z1))))) ∧
 True ))) ∧
 ((True  ∧
 ((@Eq (Option TV) (.some (.agg [(.val (.int .u32 (z17))), (.val (.int .i64 (z18)))])) (.some (.agg [(.val (.int .u32 (z17))), (.val (.int .i64 (z18)))]))) ∧
 ((@Eq (Option TV) (.some (.val (.int .i64 (z1)))) (.some (.val (.int .i64 (z1))))) ∧
 True ))) ∧
 ((True  ∧
 ((@Eq (Option TV) (.some (.agg [(.val (.int .u32 (z17))), (.val (.int .i64 (z18)))])) (.some (.agg [(.val (.int .u32 (z17))), (.val (.int .i64 (z18)))]))) ∧
 ((@Eq (Option TV) (.some (.val (.int .i64 (z1)))) (.some (.val (.int .i64 (z1))))) ∧
 True ))) ∧
 ((True  ∧
 ((@Eq (Option TV) (.some (.agg [(.val (.int .u32 (z17))), (.val (.int .i64 (z18)))])) (.some (.agg [(.val (.int .u32 (z17))), (.val (.int .i64 (z18)))]))) ∧
 ((@Eq (Option TV) (.some (.val (.int .i64 (z1)))) (.some (.val (.int .i64 (z1))))) ∧
 True ))) ∧
 ((True  ∧
 ((@Eq (Option TV) (.some (.agg [(.val (.int .u32 (z17))), (.val (.int .i64 (z18)))])) (.some (.agg [(.val (.int .u32 (z17))), (.val (.int .i64 (z18)))]))) ∧
 ((@Eq (Option TV) (.some (.val (.int .i64 (z1)))) (.some (.val (.int .i64 (z1))))) ∧
 True ))) ∧
 ((True  ∧
 ((@Eq (Option TV) (.some (.agg [(.val (.int .u32 (z17))), (.val (.int .i64 (z18)))])) (.some (.agg [(.val (.int .u32 (z17))), (.val (.int .i64 (z18)))]))) ∧
 ((@Eq (Option TV) (.some (.val (.int .i64 (z1)))) (.some (.val (.int .i64 (z1))))) ∧
 True ))) ∧
 (((@Eq (Option TV) (.some (.agg [(.val (.int .u32 (z17))), (.val (.int .i64 (z18)))])) (.some (.agg [(.val (.int .u32 (z17))), (.val (.int .i64 (z18)))]))) ∧
 ((@Eq (Option TV) (.some (.val (.int .i64 (z1)))) (.some (.val (.int .i64 (z1))))) ∧
 True )) ∧
 (((@Eq (Option TV) (.some (.agg [(.val (.int .u32 (z17))), (.val (.int .i64 (z18)))])) (.some (.agg [(.val (.int .u32 (z17))), (.val (.int .i64 (z18)))]))) ∧
 ((@Eq (Option TV) (.some (.val (.int .i64 (z1)))) (.some (.val (.int .i64 (z1))))) ∧
 True )) ∧
 (((@Eq (Option TV) (.some (.agg [(.val (.int .u32 (z17))), (.val (.int .i64 (z18)))])) (.some (.agg [(.val (.int .u32 (z17))), (.val (.int .i64 (z18)))]))) ∧
 ((@Eq (Option TV) (.some (.val (.int .i64 (z1)))) (.some (.val (.int .i64 (z1))))) ∧
 True )) ∧
 (((@Eq (Option TV) (.some (.agg [(.val (.int .u32 (z17))), (.val (.int .i64 (z18)))])) (.some (.agg [(.val (.int .u32 (z17))), (.val (.int .i64 (z18)))]))) ∧
 ((@Eq (Option TV) (.some (.val (.int .i64 (z1)))) (.some (.val (.int .i64 (z1))))) ∧
 True )) ∧
 ((True  ∧
 ((@Eq (Option TV) (.some (.agg [(.val (.int .u32 (z17))), (.val (.int .i64 (z18)))])) (.some (.agg [(.val (.int .u32 (z17))), (.val (.int .i64 (z18)))]))) ∧
 ((@Eq (Option TV) (.some (.val (.int .i64 (z1)))) (.some (.val (.int .i64 (z1))))) ∧
 True ))) ∧
 ((True  ∧
 ((@Eq (Option TV) (.some (.agg [(.val (.int .u32 (z17))), (.val (.int .i64 (z18)))])) (.some (.agg [(.val (.int .u32 (z17))), (.val (.int .i64 (z18)))]))) ∧
 ((@Eq (Option TV) (.some (.val (.int .i64 (z1)))) (.some (.val (.int .i64 (z1))))) ∧
 True ))) ∧
 ((True  ∧
 ((@Eq (Option TV) (.some (.agg [(.val (.int .u32 (z17))), (.val (.int .i64 (z18)))])) (.some (.agg [(.val (.int .u32 (z17))), (.val (.int .i64 (z18)))]))) ∧
 ((@Eq (Option TV) (.some (.val (.int .i64 (z1)))) (.some (.val (.int .i64 (z1))))) ∧
 True ))) ∧
 ((True  ∧
 ((@Eq (Option TV) (.some (.agg [(.val (.int .u32 (z17))), (.val (.int .i64 (z18)))])) (.some (.agg [(.val (.int .u32 (z17))), (.val (.int .i64 (z18)))]))) ∧
 ((@Eq (Option TV) (.some (.val (.int .i64 (z1)))) (.some (.val (.int .i64 (z1))))) ∧
 True ))) ∧
 ((True  ∧
 ((@Eq (Option TV) (.some (.agg [(.val (.int .u32 (z17))), (.val (.int .i64 (z18)))])) (.some (.agg [(.val (.int .u32 (z17))), (.val (.int .i64 (z18)))]))) ∧
 ((@Eq (Option TV) (.some (.val (.int .i64 (z1)))) (.some (.val (.int .i64 (z1))))) ∧
 True ))) ∧
 ((True  ∧
 ((@Eq (Option TV) (.some (.agg [(.val (.int .u32 (z17))), (.val (.int .i64 (z18)))])) (.some (.agg [(.val (.int .u32 (z17))), (.val (.int .i64 (z18)))]))) ∧
 ((@Eq (Option TV) (.some (.val (.int .i64 (z1)))) (.some (.val (.int .i64 (z1))))) ∧
 True ))) ∧
 True )))))))))))))))))))) ∧
 True )) := by kernel_rfl
end Go.Proofs.YtcbddghmpneloaaGreatDoor
