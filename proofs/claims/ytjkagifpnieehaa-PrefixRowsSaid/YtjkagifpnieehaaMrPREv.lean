/- PrefixRows: what the kernel leaves. -/
import Derived.Test.YtjkagifpnieehaaMr4
import Derived.Test.YtjkagifpnieehaaPfx2
namespace Go.Proofs.Ytjkagifpnieehaa
open Go.RowKit

abbrev cpF := 16
abbrev clF := 12
abbrev rsF := 7
abbrev smF := 5
abbrev paF := 8
abbrev raF := 9
abbrev pbF := 10
abbrev rbF := 18
abbrev prF := 3
abbrev ptF := 6
def noGl : Globs := fun _ => none
def noSp : FuncId → Option Spec := fun _ => none
def noLp : Nat → Option (LSpec × Code) := fun _ => none
def pxc (a n : Int) : List TV := [.val (.int .u32 a), .val (.int .i64 n)]
def clO (q : List TV) (qs : List (List TV)) : Ora := tellS [(7, .row 2 0 0 (q :: qs).length, some fun T => T.newRow (q :: qs).flatten)]
def cpK : List Nat := [0, 2, 3]
def cpV (n : Nat) (j : Int) : List TV := [.row 2 0 0 n, .val (.slice none 0 0), .val (.int .i64 j)]
def cpL (n : Nat) (cs : List TV) (D0 : Prop) (D1 : Nat → List TV → Prop) (c0 : Code) : Nat → Option (LSpec × Code) := specsL [(0, loopL 61 cpK [] (cpV n 1) ⟨[.row cs], []⟩ fun K => (D0 → K .normal (slotsN 61 cpK (cpV n n)) ⟨[.row cs], []⟩ []) ∧ ∀ (k : Nat) (cs' : List TV), D1 k cs' → K .ret (slotsN 61 cpK [.row 2 0 0 n, .row 2 0 0 k, .val (.int .i64 k)]) ⟨[.row cs'], []⟩ [], c0)]
def cpKB : List Nat := [0, 2, 3, 4, 5]
def cpVB (n j : Nat) (k m : Int) : List TV := [.row 2 0 0 n, .val (.slice none 0 0), .val (.int .i64 k), .row 2 0 j (n - j), .val (.int .i64 m)]
def cpLB (n j : Nat) (cs : List TV) (D2 : Nat → List TV → Prop) (c0 : Code) : Nat → Option (LSpec × Code) := specsL [(2, loopL 61 cpKB [] (cpVB n j j 1) ⟨[.row cs], []⟩ fun K => ∀ (k : Nat) (cs' : List TV), D2 k cs' → K .normal (slotsN 61 cpKB (cpVB n j k ((n - j : Nat) : Int))) ⟨[.row cs'], []⟩ [], c0)]
def pxZero : Value := .agg #[.int .u32 0, .int .i64 0]
def rowT (T : VT) : List TV := match T.objs with
  | .row cs :: _ => cs
  | _ => []
def cpO (l : List (Nat × TV × Option (VT → VT))) (n : Nat) : Ora := fun o vs T => match o.op with
  | .call c => match c.callee, vs with
    | .builtin .clear, [.row _ _ k m] => some (.val (.tuple #[]), some ⟨[.row (setCs (rowT T) (k * 2) (zeroTs pxZero m))], []⟩)
    | _, _ => none
  | _ => match o.dst, vs with
    | some d, [_, .val (.int _ z)] => bif Nat.beq d 56 then some (.row 2 0 z.toNat (n - z.toNat), none) else bif Nat.beq d 59 then some (.row 2 0 0 z.toNat, none) else tellS l o vs T
    | _, _ => tellS l o vs T
def rsK : List Nat := [2, 3, 7, 8, 9]
def rsV (O L : List (List TV)) (j : Int) : List TV := [.val (.slice none 0 0), .vec 2 O .none, .vec 2 L .none, .val (.int .i64 L.length), .val (.int .i64 j)]
def rsL (O L : List (List TV)) (c0 : Code) : Nat → Option (LSpec × Code) := specsL [(0, loopM 54 rsK [(3, 2)] [3] (rsV [] L 0) ⟨[], [(0, 2, true)]⟩ fun K => K .normal (slotsN 54 rsK (rsV O L L.length)) ⟨[], [(0, 2, true)]⟩ [], c0)]
def rsKB : List Nat := [2, 3, 5, 6, 7, 8, 9]
def rsVB (O L : List (List TV)) (j i : Int) : List TV := [.val (.slice none 0 0), .vec 2 O .none, .ptr 0 0, .val (.int .i64 i), .vec 2 L .none, .val (.int .i64 L.length), .val (.int .i64 j)]
def rsLB (O L : List (List TV)) (a n : Int) (j p : Nat) (c0 : Code) : Nat → Option (LSpec × Code) := specsL [(2, loopL 54 rsKB [] (rsVB O L j 0) ⟨[.cells (pxc a n)], [(0, 2, true)]⟩ fun K => K .normal (slotsN 54 rsKB (rsVB O L j p)) ⟨[.cells (pxc a n)], [(0, 2, true)]⟩ [], c0)]
def cmpD : List TV → Option TV
  | [.agg [.val (.int .u32 a), .val (.int .i64 n)], .agg [.val (.int .u32 b), .val (.int .i64 m)]] => some (.val (.int .i64 (pcmpZ a n b m)))
  | _ => none
def rsC : FuncId → Option Spec := specs [(17, fnW cmpD)]
def rsO (O L : List (List TV)) (a n b m : Int) (p : Nat) : Ora := tellS [(999999, .dead, none), (999998, .dead, none), (11, .elt (pxc a n), none), (35, .elt (pxc b m), none), (43, .vec 2 (O.take p) .none, none), (44, .vec 2 (O.take p) (.tail 1 (O.take p).length), some fun T => { T with tails := [(0, 2, true), ((O.take p).length, 2, false)] }), (47, .vec 2 (O.take p ++ [pxc a n]) (.tail 1 ((O.take p).length + 1)), some fun T => { T with tails := [(0, 2, true), ((O.take p).length + 1, 2, false)] }), (50, .vec 2 (O.drop p) .none, none), (51, .vec 2 (O.take p ++ [pxc a n] ++ O.drop p) (.tail 1 ((O.take p).length + 1 + (O.drop p).length)), some fun T => { T with tails := [(0, 2, true), ((O.take p).length + 1 + (O.drop p).length, 2, false)] })]
def smV (l : List (List TV)) (j : Nat) : List TV := [.vec 2 l .none, .vec 2 l .none, .val (.int .i64 l.length), .val (.int .i64 j), .val (.bool false)]
def smL (l : List (List TV)) (c0 : Code) : Nat → Option (LSpec × Code) := specsL [(0, loopL 26 [0, 1, 12, 13, 4] [] (smV l 0) ⟨[], []⟩ fun K => K .normal (slotsN 26 [0, 1, 12, 13, 4] (smV l l.length)) ⟨[], []⟩ [], c0)]
def alK : List Nat := [2, 3, 6, 7, 8]
def alV (B L : List (List TV)) (j : Int) : List TV := [.val (.slice none 0 0), .vec 1 B (.tail 0 B.length), .vec 2 L .none, .val (.int .i64 L.length), .val (.int .i64 j)]
def alL (B L : List (List TV)) (c0 : Code) : Nat → Option (LSpec × Code) := specsL [(0, loopL 18 alK [(3, 1)] (alV [] L 0) ⟨[], [(0, 1, true)]⟩ fun K => K .normal (slotsN 18 alK (alV B L L.length)) ⟨[], [(B.length, 1, true)]⟩ [], c0)]
def alC (f : FuncId) (R : Prop) (a n : Int) (bs : List (List TV)) : FuncId → Option Spec := specs [(f, pureIf R [.agg (pxc a n)] (.vec 1 bs .none))]
def alO (a n : Int) (B bs : List (List TV)) : Ora := tellS [(999999, .dead, none), (10, .elt (pxc a n), none), (15, .vec 1 (B ++ bs) (.tail 0 (B.length + bs.length)), some fun T => { T with tails := [(B.length + bs.length, 1, true)] })]
def rbC (a n h c : Int) : FuncId → Option Spec := specs [(28, pureAt [.agg (pxc a n)] (.agg (pxc h c)))]
def rbO (o : Int) : Ora := tell [(16, .val (.int .i64 o))]
def prC (R : Prop) (L S B : List (List TV)) : FuncId → Option Spec := specs [(ptF, pureIf R [.vec 2 L .none] (.vec 2 S .none)), (rsF, pureIf R [.vec 2 L .none] (.vec 2 S .none)), (smF, pureIf R [.vec 2 S .none, .vec 2 S .none] (.val (.bool true))), (paF, pureIf R [.vec 2 L .none] (.vec 1 B .none)), (raF, pureIf R [.vec 2 L .none] (.vec 1 B .none)), (4, trueW)]
def ptC (R : Prop) (L : List (List TV)) (n : Nat) (cs cs2 : List TV) (D : Nat → List TV → Prop) : FuncId → Option Spec := specs [(clF, fun ro ys T K => (ro = 0 ∧ ys = [.vec 2 L .none] ∧ T = ⟨[], []⟩) ∧ R ∧ K (.row 2 0 0 n) ⟨[.row cs], []⟩), (13, fun ro ys T K => (ro = 0 ∧ ys = [.row 2 0 0 n, .fn (.func 14) [] []] ∧ T = ⟨[.row cs], []⟩) ∧ R ∧ K (.val (.tuple #[])) ⟨[.row cs2], []⟩), (cpF, fun ro ys T K => (ro = 0 ∧ ys = [.row 2 0 0 n] ∧ T = ⟨[.row cs2], []⟩) ∧ ∀ (k : Nat) (cs3 : List TV), D k cs3 → K (.row 2 0 0 k) ⟨[.row cs3], []⟩)]
set_option maxRecDepth 100000 in
theorem ev_cl (q : List TV) (qs : List (List TV)) (Q : TV → VT → Prop) : vcallF Try.prog noGl noSp (clO q qs) 300 noLp 0 clF [.vec 2 (q :: qs) .none] ⟨[],[]⟩ Q =
 (OTurn Try.prog (fun _ => .none) 0 ⟨[], []⟩ (.call ⟨(.builtin .append), #[(.tmp 5), (.tmp 6)], #[22, 22]⟩) [(5, (.vec 2 [] .full)), (6, (.vec 2 ([(q)] ++ qs) .none))] (.row 2 0 0 (List.length (q :: qs))) ⟨[(.row (List.flatten (q :: qs)))], []⟩ ∧
 Q (.row 2 0 0 (List.length (q :: qs))) ⟨[(.row (List.flatten (q :: qs)))], []⟩) := by kernel_rfl
set_option maxRecDepth 100000 in
theorem ev_cp (n : Nat) (cs : List TV) (D0 : Prop) (D1 : Nat → List TV → Prop) (Q : TV → VT → Prop) : vcallF Try.prog noGl noSp (cpO [(999999, .dead, none)] n) 300 (cpL n cs D0 D1 (codeAt Try.prog cpF 0)) 0 cpF [.row 2 0 0 n] ⟨[.row cs],[]⟩ Q =
 (bif decide ((↑n : Int) < (2 : Int))
 then Q (.row 2 0 0 (n)) ⟨[(.row (cs))], []⟩
 else ((codeAt Try.prog cpF (0 : Nat) = codeAt Try.prog cpF (0 : Nat)) ∧
 (((@Eq (Option Nat) .none .none) ∧
 ((@Eq (Nat) 0 0) ∧
 ((@Eq (List Nat) [] []) ∧
 (True  ∧
 ((@Eq (VT) ⟨[(.row (cs))], []⟩ ⟨[(.row (cs))], []⟩) ∧
 ((@Eq (Bool) true true) ∧
 (@Eq (List TV) [(.row 2 0 0 (n)), (.val (.slice .none 0 0)), (.val (.int .i64 1))] [(.row 2 0 0 (n)), (.val (.slice .none 0 0)), (.val (.int .i64 1))]))))))) ∧
 ((D0  → Q (.row 2 0 0 (n)) ⟨[(.row (cs))], []⟩) ∧
 (∀ k : Nat, (∀ cs' : List TV, (D1 (k) (cs') → Q (.row 2 0 0 (k)) ⟨[(.row (cs'))], []⟩))))))) := by kernel_rfl
set_option maxRecDepth 100000 in
theorem ev_cpA (n j : Nat) (cs : List TV) (a1 n1 a2 n2 : Int) (D2 : Nat → List TV → Prop) (Q : Exit → List TV → VT → List Nat → Nat → Prop) : vx Try.prog noGl noSp (cpO [(999999, .dead, none), (18, .ptr 0 (j * 2), none), (19, .agg (pxc a1 n1), none), (23, .ptr 0 ((j - 1) * 2), none), (24, .agg (pxc a2 n2), none), (28, .row 2 0 j (n - j), none)] n) 300 (cpLB n j cs D2 (codeAt Try.prog cpF 2)) none 0 (loopAt Try.prog cpF 0) (slotsN 61 cpK (cpV n j)) ⟨[.row cs], []⟩ [] (pickS cpK Q) =
 (bif decide ((↑j : Int) < (↑n : Int))
 then (OPure Try.prog (fun _ => .none) (.indexAddr 22 (.tmp 16) (.tmp 17)) [(16, (.row 2 0 0 (n))), (17, (.val (.int .i64 ((↑j : Int)))))] (.ptr 0 (j * (2 : Nat))) ∧
 (OPure Try.prog (fun _ => .none) (.indexAddr 22 (.tmp 20) (.tmp 22)) [(20, (.row 2 0 0 (n))), (22, (.val (.int .i64 (IntKind.wrap IntKind.i64 ((↑j : Int) - (1 : Int))))))] (.ptr 0 ((j - (1 : Nat)) * (2 : Nat))) ∧
 (OTake Try.prog (fun _ => .none) ⟨[(.row (cs))], []⟩ false (.load 32 (.tmp 18)) [(18, (.ptr 0 (j * (2 : Nat))))] (.agg [(.val (.int .u32 (a1))), (.val (.int .i64 (n1)))]) ∧
 (OTake Try.prog (fun _ => .none) ⟨[(.row (cs))], []⟩ false (.load 32 (.tmp 23)) [(23, (.ptr 0 ((j - (1 : Nat)) * (2 : Nat))))] (.agg [(.val (.int .u32 (a2))), (.val (.int .i64 (n2)))]) ∧
 (bif eqRes BinOp.eql (keyEq ((fun vs => Value.agg (List.toArray vs)) ((fun x => Value.int IntKind.u32 a1 :: x) ((fun x => Value.int IntKind.i64 n1 :: x) []))) ((fun vs => Value.agg (List.toArray vs)) ((fun x => Value.int IntKind.u32 a2 :: x) ((fun x => Value.int IntKind.i64 n2 :: x) []))))
 then (OPure Try.prog (fun _ => .none) (.slice 22 (.tmp 26) (.some (.tmp 27)) .none .none) [(26, (.row 2 0 0 (n))), (27, (.val (.int .i64 ((↑j : Int)))))] (.row 2 0 (j) (n - j)) ∧
 ((codeAt Try.prog cpF (2 : Nat) = codeAt Try.prog cpF (2 : Nat)) ∧
 (((@Eq (Option Nat) .none .none) ∧
 ((@Eq (Nat) 0 0) ∧
 ((@Eq (List Nat) [] []) ∧
 (True  ∧
 ((@Eq (VT) ⟨[(.row (cs))], []⟩ ⟨[(.row (cs))], []⟩) ∧
 ((@Eq (Bool) true true) ∧
 (@Eq (List TV) [(.row 2 0 0 (n)), (.val (.slice .none 0 0)), (.val (.int .i64 ((↑j : Int)))), (.row 2 0 (j) (n - j)), (.val (.int .i64 1))] [(.row 2 0 0 (n)), (.val (.slice .none 0 0)), (.val (.int .i64 ((↑j : Int)))), (.row 2 0 (j) (n - j)), (.val (.int .i64 1))]))))))) ∧
 (∀ k : Nat, (∀ cs' : List TV, (D2 (k) (cs') → (OPure Try.prog (fun _ => .none) (.slice 22 (.tmp 54) (.some (.tmp 55)) .none .none) [(54, (.row 2 0 0 (n))), (55, (.val (.int .i64 ((↑k : Int)))))] (.row 2 0 (Int.toNat (↑k : Int)) (n - Int.toNat (↑k : Int))) ∧
 (OTurn Try.prog (fun _ => .none) 0 ⟨[(.row (cs'))], []⟩ (.call ⟨(.builtin .clear), #[(.tmp 56)], #[22]⟩) [(56, (.row 2 0 (Int.toNat (↑k : Int)) (n - Int.toNat (↑k : Int))))] (.val (.tuple #[])) ⟨[(.row (setCs (rowT { objs := [VO.row cs'], tails := [] }) (Int.toNat (↑k : Int) * (2 : Nat)) (zeroTs pxZero (n - Int.toNat (↑k : Int)))))], []⟩ ∧
 (OPure Try.prog (fun _ => .none) (.slice 22 (.tmp 57) .none (.some (.tmp 58)) .none) [(57, (.row 2 0 0 (n))), (58, (.val (.int .i64 ((↑k : Int)))))] (.row 2 0 0 (Int.toNat (↑k : Int))) ∧
 Q .ret [(.row 2 0 0 (n)), (.row 2 0 0 (Int.toNat (↑k : Int))), (.val (.int .i64 ((↑k : Int))))] ⟨[(.row (setCs (rowT { objs := [VO.row cs'], tails := [] }) (Int.toNat (↑k : Int) * (2 : Nat)) (zeroTs pxZero (n - Int.toNat (↑k : Int)))))], []⟩ [] 61)))))))))
 else Q .normal [(.row 2 0 0 (n)), (.val (.slice .none 0 0)), (.val (.int .i64 (IntKind.wrap IntKind.i64 ((↑j : Int) + (1 : Int)))))] ⟨[(.row (cs))], []⟩ [] 61)))))
 else Q (.exit 0) [(.row 2 0 0 (n)), (.val (.slice .none 0 0)), (.val (.int .i64 ((↑j : Int))))] ⟨[(.row (cs))], []⟩ [] 61) := by kernel_rfl
set_option maxRecDepth 100000 in
theorem ev_cpB (n j k m : Nat) (cs : List TV) (a1 n1 a2 n2 : Int) (Q : Exit → List TV → VT → List Nat → Nat → Prop) : vx Try.prog noGl noSp (cpO [(999999, .dead, none), (37, .ptr 0 (j * 2 + m * 2), none), (38, .agg (pxc a1 n1), none), (42, .ptr 0 (j * 2 + (m - 1) * 2), none), (43, .agg (pxc a2 n2), none), (49, .ptr 0 (j * 2 + m * 2), none), (50, .agg (pxc a1 n1), some fun T => T), (51, .ptr 0 (k * 2), none), (500051, .val undef, some fun _ => ⟨[.row (setCs cs (k * 2) (pxc a1 n1))], []⟩)] n) 300 noLp none 0 (loopAt Try.prog cpF 2) (slotsN 61 cpKB (cpVB n j k m)) ⟨[.row cs], []⟩ [] (pickS cpKB Q) =
 (bif decide ((↑m : Int) < (↑(n - j) : Int))
 then (OPure Try.prog (fun _ => .none) (.indexAddr 22 (.tmp 35) (.tmp 36)) [(35, (.row 2 0 (j) (n - j))), (36, (.val (.int .i64 ((↑m : Int)))))] (.ptr 0 (j * (2 : Nat) + m * (2 : Nat))) ∧
 (OPure Try.prog (fun _ => .none) (.indexAddr 22 (.tmp 39) (.tmp 41)) [(39, (.row 2 0 (j) (n - j))), (41, (.val (.int .i64 (IntKind.wrap IntKind.i64 ((↑m : Int) - (1 : Int))))))] (.ptr 0 (j * (2 : Nat) + (m - (1 : Nat)) * (2 : Nat))) ∧
 (OTake Try.prog (fun _ => .none) ⟨[(.row (cs))], []⟩ false (.load 32 (.tmp 37)) [(37, (.ptr 0 (j * (2 : Nat) + m * (2 : Nat))))] (.agg [(.val (.int .u32 (a1))), (.val (.int .i64 (n1)))]) ∧
 (OTake Try.prog (fun _ => .none) ⟨[(.row (cs))], []⟩ false (.load 32 (.tmp 42)) [(42, (.ptr 0 (j * (2 : Nat) + (m - (1 : Nat)) * (2 : Nat))))] (.agg [(.val (.int .u32 (a2))), (.val (.int .i64 (n2)))]) ∧
 (bif eqRes BinOp.neq (keyEq ((fun vs => Value.agg (List.toArray vs)) ((fun x => Value.int IntKind.u32 a1 :: x) ((fun x => Value.int IntKind.i64 n1 :: x) []))) ((fun vs => Value.agg (List.toArray vs)) ((fun x => Value.int IntKind.u32 a2 :: x) ((fun x => Value.int IntKind.i64 n2 :: x) []))))
 then (OPure Try.prog (fun _ => .none) (.indexAddr 22 (.tmp 47) (.tmp 48)) [(47, (.row 2 0 (j) (n - j))), (48, (.val (.int .i64 ((↑m : Int)))))] (.ptr 0 (j * (2 : Nat) + m * (2 : Nat))) ∧
 (OTurn Try.prog (fun _ => .none) 0 ⟨[(.row (cs))], []⟩ (.load 32 (.tmp 49)) [(49, (.ptr 0 (j * (2 : Nat) + m * (2 : Nat))))] (.agg [(.val (.int .u32 (a1))), (.val (.int .i64 (n1)))]) ⟨[(.row (cs))], []⟩ ∧
 (OPure Try.prog (fun _ => .none) (.indexAddr 22 (.tmp 45) (.tmp 46)) [(45, (.row 2 0 0 (n))), (46, (.val (.int .i64 ((↑k : Int)))))] (.ptr 0 (k * (2 : Nat))) ∧
 (OTurn Try.prog (fun _ => .none) 0 ⟨[(.row (cs))], []⟩ (.store 32 (.tmp 51) (.tmp 50)) [(51, (.ptr 0 (k * (2 : Nat)))), (50, (.agg [(.val (.int .u32 (a1))), (.val (.int .i64 (n1)))]))] (.val (.tuple #[])) ⟨[(.row (setCs cs (k * (2 : Nat)) (pxc a1 n1)))], []⟩ ∧
 Q .normal [(.row 2 0 0 (n)), (.val (.slice .none 0 0)), (.val (.int .i64 (IntKind.wrap IntKind.i64 ((↑k : Int) + (1 : Int))))), (.row 2 0 (j) (n - j)), (.val (.int .i64 (IntKind.wrap IntKind.i64 ((↑m : Int) + (1 : Int)))))] ⟨[(.row (setCs cs (k * (2 : Nat)) (pxc a1 n1)))], []⟩ [] 61))))
 else Q .normal [(.row 2 0 0 (n)), (.val (.slice .none 0 0)), (.val (.int .i64 ((↑k : Int)))), (.row 2 0 (j) (n - j)), (.val (.int .i64 (IntKind.wrap IntKind.i64 ((↑m : Int) + (1 : Int)))))] ⟨[(.row (cs))], []⟩ [] 61)))))
 else Q (.exit 2) [(.row 2 0 0 (n)), (.val (.slice .none 0 0)), (.val (.int .i64 ((↑k : Int)))), (.row 2 0 (j) (n - j)), (.val (.int .i64 ((↑m : Int))))] ⟨[(.row (cs))], []⟩ [] 61) := by kernel_rfl
set_option maxRecDepth 100000 in
theorem ev_rs (O L : List (List TV)) (Q : TV → VT → Prop) : vcallF Try.prog noGl rsC noOra 300 (rsL O L (codeAt Try.prog rsF 0)) 0 rsF [.vec 2 L .none] ⟨[],[]⟩ Q =
 ((codeAt Try.prog rsF (0 : Nat) = codeAt Try.prog rsF (0 : Nat)) ∧
 (((@Eq (Option Nat) .none .none) ∧
 ((@Eq (Nat) 0 0) ∧
 ((@Eq (List Nat) [] []) ∧
 (((@Eq (Option TV) (.some (.val (.slice .none 0 0))) (.some (.val (.slice .none 0 0)))) ∧
 True ) ∧
 ((@Eq (VT) ⟨[], [(0, (2, true))]⟩ ⟨[], [(0, (2, true))]⟩) ∧
 ((@Eq (Bool) true true) ∧
 (@Eq (List TV) [(.val (.slice .none 0 0)), (.vec 2 [] .none), (.vec 2 (L) .none), (.val (.int .i64 ((↑(List.length L) : Int)))), (.val (.int .i64 0))] [(.val (.slice .none 0 0)), (.vec 2 [] .none), (.vec 2 (L) .none), (.val (.int .i64 ((↑(List.length L) : Int)))), (.val (.int .i64 0))]))))))) ∧
 Q (.vec 2 (O) .none) ⟨[], [(0, (2, true))]⟩)) := by kernel_rfl
set_option maxRecDepth 100000 in
theorem ev_rsA (O L : List (List TV)) (a n b m : Int) (j p : Nat) (Q : Exit → List TV → VT → List Nat → Nat → Prop) : vx Try.prog noGl rsC (rsO O L a n b m p) 300 (rsLB O L a n j p (codeAt Try.prog rsF 2)) none 0 (loopAt Try.prog rsF 0) (slotsN 54 rsK (rsV O L j)) ⟨[], [(0, 2, true)]⟩ [] (pickS rsK Q) =
 (bif decide ((↑j : Int) < (↑(List.length L) : Int))
 then (OPure Try.prog (fun _ => .none) (.indexAddr 22 (.tmp 7) (.tmp 9)) [(7, (.vec 2 (L) .none)), (9, (.val (.int .i64 ((↑j : Int)))))] (.elt [(.val (.int .u32 (a))), (.val (.int .i64 (n)))]) ∧
 ((codeAt Try.prog rsF (2 : Nat) = codeAt Try.prog rsF (2 : Nat)) ∧
 (((@Eq (Option Nat) .none .none) ∧
 ((@Eq (Nat) 0 0) ∧
 ((@Eq (List Nat) [] []) ∧
 (True  ∧
 ((@Eq (VT) ⟨[(.cells [(.val (.int .u32 (a))), (.val (.int .i64 (n)))])], [(0, (2, true))]⟩ ⟨[(.cells [(.val (.int .u32 (a))), (.val (.int .i64 (n)))])], [(0, (2, true))]⟩) ∧
 ((@Eq (Bool) true true) ∧
 (@Eq (List TV) [(.val (.slice .none 0 0)), (.vec 2 (O) .none), (.ptr 0 0), (.val (.int .i64 0)), (.vec 2 (L) .none), (.val (.int .i64 ((↑(List.length L) : Int)))), (.val (.int .i64 ((↑j : Int))))] [(.val (.slice .none 0 0)), (.vec 2 (O) .none), (.ptr 0 0), (.val (.int .i64 0)), (.vec 2 (L) .none), (.val (.int .i64 ((↑(List.length L) : Int)))), (.val (.int .i64 ((↑j : Int))))]))))))) ∧
 (bif decide ((↑p : Int) < (↑(List.length O) : Int))
 then (OPure Try.prog (fun _ => .none) (.indexAddr 22 (.tmp 33) (.tmp 34)) [(33, (.vec 2 (O) .none)), (34, (.val (.int .i64 ((↑p : Int)))))] (.elt [(.val (.int .u32 (b))), (.val (.int .i64 (m)))]) ∧
 (bif eqRes BinOp.eql (keyEq ((fun vs => Value.agg (List.toArray vs)) ((fun x => Value.int IntKind.u32 b :: x) ((fun x => Value.int IntKind.i64 m :: x) []))) ((fun vs => Value.agg (List.toArray vs)) ((fun x => Value.int IntKind.u32 a :: x) ((fun x => Value.int IntKind.i64 n :: x) []))))
 then Q .normal [(.val (.slice .none 0 0)), (.vec 2 (O) .none), (.vec 2 (L) .none), (.val (.int .i64 ((↑(List.length L) : Int)))), (.val (.int .i64 (IntKind.wrap IntKind.i64 ((↑j : Int) + (1 : Int)))))] ⟨[(.cells [(.val (.int .u32 (a))), (.val (.int .i64 (n)))])], [(0, (2, true))]⟩ [] 54
 else (OPure Try.prog (fun _ => .none) (.slice 22 (.tmp 41) .none (.some (.tmp 42)) .none) [(41, (.vec 2 (O) .none)), (42, (.val (.int .i64 ((↑p : Int)))))] (.vec 2 (List.take p O) .none) ∧
 (OPure Try.prog (fun _ => .none) (.slice 22 (.tmp 48) (.some (.tmp 49)) .none .none) [(48, (.vec 2 (O) .none)), (49, (.val (.int .i64 ((↑p : Int)))))] (.vec 2 (List.drop p O) .none) ∧
 (OTurn Try.prog (fun _ => .none) 0 ⟨[(.cells [(.val (.int .u32 (a))), (.val (.int .i64 (n)))])], [(0, (2, true))]⟩ (.call ⟨(.builtin .append), #[(.tmp 40), (.tmp 43)], #[22, 22]⟩) [(40, (.vec 2 [] .full)), (43, (.vec 2 (List.take p O) .none))] (.vec 2 (List.take p O) (.tail 1 (List.length (List.take p O)))) ⟨[(.cells [(.val (.int .u32 (a))), (.val (.int .i64 (n)))])], [(0, (2, true)), ((List.length (List.take p O)), (2, false))]⟩ ∧
 (((@Eq (Option TV) (.some (.agg [(.val (.int .u32 (a))), (.val (.int .i64 (n)))])) (.some (.agg [(.val (.int .u32 (a))), (.val (.int .i64 (n)))]))) ∧
 True ) ∧
 (OTurn Try.prog (fun _ => .none) 0 ⟨[(.cells [(.val (.int .u32 (a))), (.val (.int .i64 (n)))])], [(0, (2, true)), ((List.length (List.take p O)), (2, false))]⟩ (.call ⟨(.builtin .append), #[(.tmp 44), (.tmp 46)], #[22, 22]⟩) [(44, (.vec 2 (List.take p O) (.tail 1 (List.length (List.take p O))))), (46, (.vec 2 [[(.val (.int .u32 (a))), (.val (.int .i64 (n)))]] .full))] (.vec 2 (List.take p O ++ [pxc a n]) (.tail 1 (List.length (List.take p O) + (1 : Nat)))) ⟨[(.cells [(.val (.int .u32 (a))), (.val (.int .i64 (n)))])], [(0, (2, true)), ((List.length (List.take p O) + (1 : Nat)), (2, false))]⟩ ∧
 (OTurn Try.prog (fun _ => .none) 0 ⟨[(.cells [(.val (.int .u32 (a))), (.val (.int .i64 (n)))])], [(0, (2, true)), ((List.length (List.take p O) + (1 : Nat)), (2, false))]⟩ (.call ⟨(.builtin .append), #[(.tmp 47), (.tmp 50)], #[22, 22]⟩) [(47, (.vec 2 (List.take p O ++ [pxc a n]) (.tail 1 (List.length (List.take p O) + (1 : Nat))))), (50, (.vec 2 (List.drop p O) .none))] (.vec 2 (List.take p O ++ [pxc a n] ++ List.drop p O) (.tail 1 (List.length (List.take p O) + (1 : Nat) + List.length (List.drop p O)))) ⟨[(.cells [(.val (.int .u32 (a))), (.val (.int .i64 (n)))])], [(0, (2, true)), ((List.length (List.take p O) + (1 : Nat) + List.length (List.drop p O)), (2, false))]⟩ ∧
 Q .normal [(.val (.slice .none 0 0)), (.vec 2 (List.take p O ++ [pxc a n] ++ List.drop p O) (.tail 1 (List.length (List.take p O) + (1 : Nat) + List.length (List.drop p O)))), (.vec 2 (L) .none), (.val (.int .i64 ((↑(List.length L) : Int)))), (.val (.int .i64 (IntKind.wrap IntKind.i64 ((↑j : Int) + (1 : Int)))))] ⟨[(.cells [(.val (.int .u32 (a))), (.val (.int .i64 (n)))])], [(0, (2, true)), ((List.length (List.take p O) + (1 : Nat) + List.length (List.drop p O)), (2, false))]⟩ [] 54))))))))
 else (OPure Try.prog (fun _ => .none) (.slice 22 (.tmp 41) .none (.some (.tmp 42)) .none) [(41, (.vec 2 (O) .none)), (42, (.val (.int .i64 ((↑p : Int)))))] (.vec 2 (List.take p O) .none) ∧
 (OPure Try.prog (fun _ => .none) (.slice 22 (.tmp 48) (.some (.tmp 49)) .none .none) [(48, (.vec 2 (O) .none)), (49, (.val (.int .i64 ((↑p : Int)))))] (.vec 2 (List.drop p O) .none) ∧
 (OTurn Try.prog (fun _ => .none) 0 ⟨[(.cells [(.val (.int .u32 (a))), (.val (.int .i64 (n)))])], [(0, (2, true))]⟩ (.call ⟨(.builtin .append), #[(.tmp 40), (.tmp 43)], #[22, 22]⟩) [(40, (.vec 2 [] .full)), (43, (.vec 2 (List.take p O) .none))] (.vec 2 (List.take p O) (.tail 1 (List.length (List.take p O)))) ⟨[(.cells [(.val (.int .u32 (a))), (.val (.int .i64 (n)))])], [(0, (2, true)), ((List.length (List.take p O)), (2, false))]⟩ ∧
 (((@Eq (Option TV) (.some (.agg [(.val (.int .u32 (a))), (.val (.int .i64 (n)))])) (.some (.agg [(.val (.int .u32 (a))), (.val (.int .i64 (n)))]))) ∧
 True ) ∧
 (OTurn Try.prog (fun _ => .none) 0 ⟨[(.cells [(.val (.int .u32 (a))), (.val (.int .i64 (n)))])], [(0, (2, true)), ((List.length (List.take p O)), (2, false))]⟩ (.call ⟨(.builtin .append), #[(.tmp 44), (.tmp 46)], #[22, 22]⟩) [(44, (.vec 2 (List.take p O) (.tail 1 (List.length (List.take p O))))), (46, (.vec 2 [[(.val (.int .u32 (a))), (.val (.int .i64 (n)))]] .full))] (.vec 2 (List.take p O ++ [pxc a n]) (.tail 1 (List.length (List.take p O) + (1 : Nat)))) ⟨[(.cells [(.val (.int .u32 (a))), (.val (.int .i64 (n)))])], [(0, (2, true)), ((List.length (List.take p O) + (1 : Nat)), (2, false))]⟩ ∧
 (OTurn Try.prog (fun _ => .none) 0 ⟨[(.cells [(.val (.int .u32 (a))), (.val (.int .i64 (n)))])], [(0, (2, true)), ((List.length (List.take p O) + (1 : Nat)), (2, false))]⟩ (.call ⟨(.builtin .append), #[(.tmp 47), (.tmp 50)], #[22, 22]⟩) [(47, (.vec 2 (List.take p O ++ [pxc a n]) (.tail 1 (List.length (List.take p O) + (1 : Nat))))), (50, (.vec 2 (List.drop p O) .none))] (.vec 2 (List.take p O ++ [pxc a n] ++ List.drop p O) (.tail 1 (List.length (List.take p O) + (1 : Nat) + List.length (List.drop p O)))) ⟨[(.cells [(.val (.int .u32 (a))), (.val (.int .i64 (n)))])], [(0, (2, true)), ((List.length (List.take p O) + (1 : Nat) + List.length (List.drop p O)), (2, false))]⟩ ∧
 Q .normal [(.val (.slice .none 0 0)), (.vec 2 (List.take p O ++ [pxc a n] ++ List.drop p O) (.tail 1 (List.length (List.take p O) + (1 : Nat) + List.length (List.drop p O)))), (.vec 2 (L) .none), (.val (.int .i64 ((↑(List.length L) : Int)))), (.val (.int .i64 (IntKind.wrap IntKind.i64 ((↑j : Int) + (1 : Int)))))] ⟨[(.cells [(.val (.int .u32 (a))), (.val (.int .i64 (n)))])], [(0, (2, true)), ((List.length (List.take p O) + (1 : Nat) + List.length (List.drop p O)), (2, false))]⟩ [] 54))))))))))
 else Q (.exit 0) [(.val (.slice .none 0 0)), (.vec 2 (O) .none), (.vec 2 (L) .none), (.val (.int .i64 ((↑(List.length L) : Int)))), (.val (.int .i64 ((↑j : Int))))] ⟨[], [(0, (2, true))]⟩ [] 54) := by kernel_rfl
set_option maxRecDepth 100000 in
theorem ev_rsB (O L : List (List TV)) (a n b m : Int) (j i : Nat) (Q : Exit → List TV → VT → List Nat → Nat → Prop) : vx Try.prog noGl rsC (tellS [(999999, .dead, none), (20, .elt (pxc b m), none)]) 300 noLp none 0 (loopAt Try.prog rsF 2) (slotsN 54 rsKB (rsVB O L j i)) ⟨[.cells (pxc a n)], [(0, 2, true)]⟩ [] (pickS rsKB Q) =
 (bif decide ((↑i : Int) < (↑(List.length O) : Int))
 then (OPure Try.prog (fun _ => .none) (.indexAddr 22 (.tmp 18) (.tmp 19)) [(18, (.vec 2 (O) .none)), (19, (.val (.int .i64 ((↑i : Int)))))] (.elt [(.val (.int .u32 (b))), (.val (.int .i64 (m)))]) ∧
 (bif decide (pcmpZ b m a n < (0 : Int))
 then Q .normal [(.val (.slice .none 0 0)), (.vec 2 (O) .none), (.ptr 0 0), (.val (.int .i64 (IntKind.wrap IntKind.i64 ((↑i : Int) + (1 : Int))))), (.vec 2 (L) .none), (.val (.int .i64 ((↑(List.length L) : Int)))), (.val (.int .i64 ((↑j : Int))))] ⟨[(.cells [(.val (.int .u32 (a))), (.val (.int .i64 (n)))])], [(0, (2, true))]⟩ [] 54
 else Q (.exit 2) [(.val (.slice .none 0 0)), (.vec 2 (O) .none), (.ptr 0 0), (.val (.int .i64 ((↑i : Int)))), (.vec 2 (L) .none), (.val (.int .i64 ((↑(List.length L) : Int)))), (.val (.int .i64 ((↑j : Int))))] ⟨[(.cells [(.val (.int .u32 (a))), (.val (.int .i64 (n)))])], [(0, (2, true))]⟩ [] 54))
 else Q (.exit 2) [(.val (.slice .none 0 0)), (.vec 2 (O) .none), (.ptr 0 0), (.val (.int .i64 ((↑i : Int)))), (.vec 2 (L) .none), (.val (.int .i64 ((↑(List.length L) : Int)))), (.val (.int .i64 ((↑j : Int))))] ⟨[(.cells [(.val (.int .u32 (a))), (.val (.int .i64 (n)))])], [(0, (2, true))]⟩ [] 54) := by kernel_rfl
set_option maxRecDepth 100000 in
theorem ev_sm (l : List (List TV)) (Q : TV → VT → Prop) : vcallF Try.prog noGl noSp noOra 300 (smL l (codeAt Try.prog smF 0)) 0 smF [.vec 2 l .none, .vec 2 l .none] ⟨[],[]⟩ Q =
 (bif eqRes BinOp.neq (keyEq (Value.int IntKind.i64 (↑(List.length l) : Int)) (Value.int IntKind.i64 (↑(List.length l) : Int)))
 then Q (.val (.bool false)) ⟨[], []⟩
 else ((codeAt Try.prog smF (0 : Nat) = codeAt Try.prog smF (0 : Nat)) ∧
 (((@Eq (Option Nat) .none .none) ∧
 ((@Eq (Nat) 0 0) ∧
 ((@Eq (List Nat) [] []) ∧
 (True  ∧
 ((@Eq (VT) ⟨[], []⟩ ⟨[], []⟩) ∧
 ((@Eq (Bool) true true) ∧
 (@Eq (List TV) [(.vec 2 (l) .none), (.vec 2 (l) .none), (.val (.int .i64 ((↑(List.length l) : Int)))), (.val (.int .i64 0)), (.val (.bool false))] [(.vec 2 (l) .none), (.vec 2 (l) .none), (.val (.int .i64 ((↑(List.length l) : Int)))), (.val (.int .i64 0)), (.val (.bool false))]))))))) ∧
 Q (.val (.bool true)) ⟨[], []⟩))) := by kernel_rfl
set_option maxRecDepth 100000 in
theorem ev_sm0 (l : List (List TV)) (j : Nat) (a n : Int) (Q : Exit → List TV → VT → List Nat → Nat → Prop) : vx Try.prog noGl noSp (tell [(999999, .dead), (18, .elt (pxc a n)), (22, .elt (pxc a n))]) 300 noLp none 0 (loopAt Try.prog smF 0) (slotsN 26 [0, 1, 12, 13, 4] (smV l j)) ⟨[], []⟩ [] (pickS [0, 1, 12, 13, 4] Q) =
 (bif decide ((↑j : Int) < (↑(List.length l) : Int))
 then (OPure Try.prog (fun _ => .none) (.indexAddr 22 (.tmp 16) (.tmp 17)) [(16, (.vec 2 (l) .none)), (17, (.val (.int .i64 ((↑j : Int)))))] (.elt [(.val (.int .u32 (a))), (.val (.int .i64 (n)))]) ∧
 (OPure Try.prog (fun _ => .none) (.indexAddr 22 (.tmp 20) (.tmp 21)) [(20, (.vec 2 (l) .none)), (21, (.val (.int .i64 ((↑j : Int)))))] (.elt [(.val (.int .u32 (a))), (.val (.int .i64 (n)))]) ∧
 (bif eqRes BinOp.neq (keyEq ((fun vs => Value.agg (List.toArray vs)) ((fun x => Value.int IntKind.u32 a :: x) ((fun x => Value.int IntKind.i64 n :: x) []))) ((fun vs => Value.agg (List.toArray vs)) ((fun x => Value.int IntKind.u32 a :: x) ((fun x => Value.int IntKind.i64 n :: x) []))))
 then Q .ret [(.vec 2 (l) .none), (.vec 2 (l) .none), (.val (.int .i64 ((↑(List.length l) : Int)))), (.val (.int .i64 ((↑j : Int)))), (.val (.bool false))] ⟨[], []⟩ [] 26
 else Q .normal [(.vec 2 (l) .none), (.vec 2 (l) .none), (.val (.int .i64 ((↑(List.length l) : Int)))), (.val (.int .i64 (IntKind.wrap IntKind.i64 ((↑j : Int) + (1 : Int))))), (.val (.bool false))] ⟨[], []⟩ [] 26)))
 else Q (.exit 0) [(.vec 2 (l) .none), (.vec 2 (l) .none), (.val (.int .i64 ((↑(List.length l) : Int)))), (.val (.int .i64 ((↑j : Int)))), (.val (.bool false))] ⟨[], []⟩ [] 26) := by kernel_rfl
set_option maxRecDepth 100000 in
theorem ev_pa (B L : List (List TV)) (Q : TV → VT → Prop) : vcallF Try.prog noGl noSp noOra 300 (alL B L (codeAt Try.prog paF 0)) 0 paF [.vec 2 L .none] ⟨[],[]⟩ Q =
 ((codeAt Try.prog paF (0 : Nat) = codeAt Try.prog paF (0 : Nat)) ∧
 (((@Eq (Option Nat) .none .none) ∧
 ((@Eq (Nat) 0 0) ∧
 ((@Eq (List Nat) [] []) ∧
 (((@Eq (Option TV) (.some (.val (.slice .none 0 0))) (.some (.val (.slice .none 0 0)))) ∧
 True ) ∧
 ((@Eq (VT) ⟨[], [(0, (1, true))]⟩ ⟨[], [(0, (1, true))]⟩) ∧
 ((@Eq (Bool) true true) ∧
 (@Eq (List TV) [(.val (.slice .none 0 0)), (.vec 1 [] (.tail 0 0)), (.vec 2 (L) .none), (.val (.int .i64 ((↑(List.length L) : Int)))), (.val (.int .i64 0))] [(.val (.slice .none 0 0)), (.vec 1 [] (.tail 0 0)), (.vec 2 (L) .none), (.val (.int .i64 ((↑(List.length L) : Int)))), (.val (.int .i64 0))]))))))) ∧
 Q (.vec 1 (B) (.tail 0 (List.length B))) ⟨[], [((List.length B), (1, true))]⟩)) := by kernel_rfl
set_option maxRecDepth 100000 in
theorem ev_paA (R : Prop) (B L bs : List (List TV)) (a n : Int) (j : Nat) (Q : Exit → List TV → VT → List Nat → Nat → Prop) : vx Try.prog noGl (alC pbF R a n bs) (alO a n B bs) 300 noLp none 0 (loopAt Try.prog paF 0) (slotsN 18 alK (alV B L j)) ⟨[], [(B.length, 1, true)]⟩ [] (pickS alK Q) =
 (bif decide ((↑j : Int) < (↑(List.length L) : Int))
 then (OPure Try.prog (fun _ => .none) (.indexAddr 22 (.tmp 6) (.tmp 8)) [(6, (.vec 2 (L) .none)), (8, (.val (.int .i64 ((↑j : Int)))))] (.elt [(.val (.int .u32 (a))), (.val (.int .i64 (n)))]) ∧
 (R  ∧
 ((@Eq (List TV) [(.agg [(.val (.int .u32 (a))), (.val (.int .i64 (n)))])] [(.agg [(.val (.int .u32 (a))), (.val (.int .i64 (n)))])]) ∧
 (OTurn Try.prog (fun _ => .none) 0 ⟨[(.cells [(.val (.int .u32 (a))), (.val (.int .i64 (n)))])], [((List.length B), (1, true))]⟩ (.call ⟨(.builtin .append), #[(.tmp 12), (.tmp 14)], #[26, 26]⟩) [(12, (.vec 1 (B) (.tail 0 (List.length B)))), (14, (.vec 1 (bs) .none))] (.vec 1 (B ++ bs) (.tail 0 (List.length B + List.length bs))) ⟨[(.cells [(.val (.int .u32 (a))), (.val (.int .i64 (n)))])], [((List.length B + List.length bs), (1, true))]⟩ ∧
 Q .normal [(.val (.slice .none 0 0)), (.vec 1 (B ++ bs) (.tail 0 (List.length B + List.length bs))), (.vec 2 (L) .none), (.val (.int .i64 ((↑(List.length L) : Int)))), (.val (.int .i64 (IntKind.wrap IntKind.i64 ((↑j : Int) + (1 : Int)))))] ⟨[(.cells [(.val (.int .u32 (a))), (.val (.int .i64 (n)))])], [((List.length B + List.length bs), (1, true))]⟩ [] 18))))
 else Q (.exit 0) [(.val (.slice .none 0 0)), (.vec 1 (B) (.tail 0 (List.length B))), (.vec 2 (L) .none), (.val (.int .i64 ((↑(List.length L) : Int)))), (.val (.int .i64 ((↑j : Int))))] ⟨[], [((List.length B), (1, true))]⟩ [] 18) := by kernel_rfl
set_option maxRecDepth 100000 in
theorem ev_ra (B L : List (List TV)) (Q : TV → VT → Prop) : vcallF Try.prog noGl noSp noOra 300 (alL B L (codeAt Try.prog raF 0)) 0 raF [.vec 2 L .none] ⟨[],[]⟩ Q =
 ((codeAt Try.prog raF (0 : Nat) = codeAt Try.prog raF (0 : Nat)) ∧
 (((@Eq (Option Nat) .none .none) ∧
 ((@Eq (Nat) 0 0) ∧
 ((@Eq (List Nat) [] []) ∧
 (((@Eq (Option TV) (.some (.val (.slice .none 0 0))) (.some (.val (.slice .none 0 0)))) ∧
 True ) ∧
 ((@Eq (VT) ⟨[], [(0, (1, true))]⟩ ⟨[], [(0, (1, true))]⟩) ∧
 ((@Eq (Bool) true true) ∧
 (@Eq (List TV) [(.val (.slice .none 0 0)), (.vec 1 [] (.tail 0 0)), (.vec 2 (L) .none), (.val (.int .i64 ((↑(List.length L) : Int)))), (.val (.int .i64 0))] [(.val (.slice .none 0 0)), (.vec 1 [] (.tail 0 0)), (.vec 2 (L) .none), (.val (.int .i64 ((↑(List.length L) : Int)))), (.val (.int .i64 0))]))))))) ∧
 Q (.vec 1 (B) (.tail 0 (List.length B))) ⟨[], [((List.length B), (1, true))]⟩)) := by kernel_rfl
set_option maxRecDepth 100000 in
theorem ev_raA (R : Prop) (B L bs : List (List TV)) (a n : Int) (j : Nat) (Q : Exit → List TV → VT → List Nat → Nat → Prop) : vx Try.prog noGl (alC rbF R a n bs) (alO a n B bs) 300 noLp none 0 (loopAt Try.prog raF 0) (slotsN 18 alK (alV B L j)) ⟨[], [(B.length, 1, true)]⟩ [] (pickS alK Q) =
 (bif decide ((↑j : Int) < (↑(List.length L) : Int))
 then (OPure Try.prog (fun _ => .none) (.indexAddr 22 (.tmp 6) (.tmp 8)) [(6, (.vec 2 (L) .none)), (8, (.val (.int .i64 ((↑j : Int)))))] (.elt [(.val (.int .u32 (a))), (.val (.int .i64 (n)))]) ∧
 (R  ∧
 ((@Eq (List TV) [(.agg [(.val (.int .u32 (a))), (.val (.int .i64 (n)))])] [(.agg [(.val (.int .u32 (a))), (.val (.int .i64 (n)))])]) ∧
 (OTurn Try.prog (fun _ => .none) 0 ⟨[(.cells [(.val (.int .u32 (a))), (.val (.int .i64 (n)))])], [((List.length B), (1, true))]⟩ (.call ⟨(.builtin .append), #[(.tmp 12), (.tmp 14)], #[26, 26]⟩) [(12, (.vec 1 (B) (.tail 0 (List.length B)))), (14, (.vec 1 (bs) .none))] (.vec 1 (B ++ bs) (.tail 0 (List.length B + List.length bs))) ⟨[(.cells [(.val (.int .u32 (a))), (.val (.int .i64 (n)))])], [((List.length B + List.length bs), (1, true))]⟩ ∧
 Q .normal [(.val (.slice .none 0 0)), (.vec 1 (B ++ bs) (.tail 0 (List.length B + List.length bs))), (.vec 2 (L) .none), (.val (.int .i64 ((↑(List.length L) : Int)))), (.val (.int .i64 (IntKind.wrap IntKind.i64 ((↑j : Int) + (1 : Int)))))] ⟨[(.cells [(.val (.int .u32 (a))), (.val (.int .i64 (n)))])], [((List.length B + List.length bs), (1, true))]⟩ [] 18))))
 else Q (.exit 0) [(.val (.slice .none 0 0)), (.vec 1 (B) (.tail 0 (List.length B))), (.vec 2 (L) .none), (.val (.int .i64 ((↑(List.length L) : Int)))), (.val (.int .i64 ((↑j : Int))))] ⟨[], [((List.length B), (1, true))]⟩ [] 18) := by kernel_rfl
set_option maxRecDepth 100000 in
theorem ev_rb0 (a n h c : Int) (Q : TV → VT → Prop) : vcallF Try.prog noGl (rbC a n h c) (rbO 0) 300 noLp 0 rbF [.agg (pxc a n)] ⟨[],[]⟩ Q =
 ((@Eq (List TV) [(.agg [(.val (.int .u32 (a))), (.val (.int .i64 (n)))])] [(.agg [(.val (.int .u32 (a))), (.val (.int .i64 (n)))])]) ∧
 (OPure Try.prog (fun _ => .none) (.binOp .quo 3 (.tmp 15) (.const (.int .i64 8)) 3) [(15, (.val (.int .i64 (IntKind.wrap IntKind.i64 (c + (7 : Int))))))] (.val (.int .i64 0)) ∧
 Q (.vec 1 [[(.val (.int .u8 (IntKind.wrap IntKind.u8 c)))]] .full) ⟨[(.cells [(.val (.int .u32 (a))), (.val (.int .i64 (n)))]), (.cells [(.val (.int .u32 (h))), (.val (.int .i64 (c)))])], []⟩)) := by kernel_rfl
set_option maxRecDepth 100000 in
theorem ev_rb1 (a n h c : Int) (Q : TV → VT → Prop) : vcallF Try.prog noGl (rbC a n h c) (rbO 1) 300 noLp 0 rbF [.agg (pxc a n)] ⟨[],[]⟩ Q =
 ((@Eq (List TV) [(.agg [(.val (.int .u32 (a))), (.val (.int .i64 (n)))])] [(.agg [(.val (.int .u32 (a))), (.val (.int .i64 (n)))])]) ∧
 (OPure Try.prog (fun _ => .none) (.binOp .quo 3 (.tmp 15) (.const (.int .i64 8)) 3) [(15, (.val (.int .i64 (IntKind.wrap IntKind.i64 (c + (7 : Int))))))] (.val (.int .i64 1)) ∧
 (OPure Try.prog (fun _ => .none) (.binOp .quo 3 (.tmp 15) (.const (.int .i64 8)) 3) [(15, (.val (.int .i64 (IntKind.wrap IntKind.i64 (c + (7 : Int))))))] (.val (.int .i64 1)) ∧
 Q (.row 1 2 0 2) ⟨[(.cells [(.val (.int .u32 (a))), (.val (.int .i64 (n)))]), (.cells [(.val (.int .u32 (h))), (.val (.int .i64 (c)))]), (.row [(.val (.int .u8 (IntKind.wrap IntKind.u8 c))), (.val (.int .u8 (IntKind.wrap IntKind.u8 (Int.fdiv h ((2 : Int) ^ min (Int.toNat (IntKind.wrap IntKind.u64 (IntKind.wrap IntKind.i64 ((24 : Int) - IntKind.wrap IntKind.i64 ((8 : Int) * (0 : Int)))))) (IntKind.bits IntKind.u32))))))])], []⟩))) := by kernel_rfl
set_option maxRecDepth 100000 in
theorem ev_rb2 (a n h c : Int) (Q : TV → VT → Prop) : vcallF Try.prog noGl (rbC a n h c) (rbO 2) 300 noLp 0 rbF [.agg (pxc a n)] ⟨[],[]⟩ Q =
 ((@Eq (List TV) [(.agg [(.val (.int .u32 (a))), (.val (.int .i64 (n)))])] [(.agg [(.val (.int .u32 (a))), (.val (.int .i64 (n)))])]) ∧
 (OPure Try.prog (fun _ => .none) (.binOp .quo 3 (.tmp 15) (.const (.int .i64 8)) 3) [(15, (.val (.int .i64 (IntKind.wrap IntKind.i64 (c + (7 : Int))))))] (.val (.int .i64 2)) ∧
 (OPure Try.prog (fun _ => .none) (.binOp .quo 3 (.tmp 15) (.const (.int .i64 8)) 3) [(15, (.val (.int .i64 (IntKind.wrap IntKind.i64 (c + (7 : Int))))))] (.val (.int .i64 2)) ∧
 (OPure Try.prog (fun _ => .none) (.binOp .quo 3 (.tmp 15) (.const (.int .i64 8)) 3) [(15, (.val (.int .i64 (IntKind.wrap IntKind.i64 (c + (7 : Int))))))] (.val (.int .i64 2)) ∧
 Q (.row 1 3 0 3) ⟨[(.cells [(.val (.int .u32 (a))), (.val (.int .i64 (n)))]), (.cells [(.val (.int .u32 (h))), (.val (.int .i64 (c)))]), .gone, (.row [(.val (.int .u8 (IntKind.wrap IntKind.u8 c))), (.val (.int .u8 (IntKind.wrap IntKind.u8 (Int.fdiv h ((2 : Int) ^ min (Int.toNat (IntKind.wrap IntKind.u64 (IntKind.wrap IntKind.i64 ((24 : Int) - IntKind.wrap IntKind.i64 ((8 : Int) * (0 : Int)))))) (IntKind.bits IntKind.u32)))))), (.val (.int .u8 (IntKind.wrap IntKind.u8 (Int.fdiv h ((2 : Int) ^ min (Int.toNat (IntKind.wrap IntKind.u64 (IntKind.wrap IntKind.i64 ((24 : Int) - IntKind.wrap IntKind.i64 ((8 : Int) * IntKind.wrap IntKind.i64 ((0 : Int) + (1 : Int))))))) (IntKind.bits IntKind.u32))))))])], []⟩)))) := by kernel_rfl
set_option maxRecDepth 100000 in
theorem ev_rb3 (a n h c : Int) (Q : TV → VT → Prop) : vcallF Try.prog noGl (rbC a n h c) (rbO 3) 300 noLp 0 rbF [.agg (pxc a n)] ⟨[],[]⟩ Q =
 ((@Eq (List TV) [(.agg [(.val (.int .u32 (a))), (.val (.int .i64 (n)))])] [(.agg [(.val (.int .u32 (a))), (.val (.int .i64 (n)))])]) ∧
 (OPure Try.prog (fun _ => .none) (.binOp .quo 3 (.tmp 15) (.const (.int .i64 8)) 3) [(15, (.val (.int .i64 (IntKind.wrap IntKind.i64 (c + (7 : Int))))))] (.val (.int .i64 3)) ∧
 (OPure Try.prog (fun _ => .none) (.binOp .quo 3 (.tmp 15) (.const (.int .i64 8)) 3) [(15, (.val (.int .i64 (IntKind.wrap IntKind.i64 (c + (7 : Int))))))] (.val (.int .i64 3)) ∧
 (OPure Try.prog (fun _ => .none) (.binOp .quo 3 (.tmp 15) (.const (.int .i64 8)) 3) [(15, (.val (.int .i64 (IntKind.wrap IntKind.i64 (c + (7 : Int))))))] (.val (.int .i64 3)) ∧
 (OPure Try.prog (fun _ => .none) (.binOp .quo 3 (.tmp 15) (.const (.int .i64 8)) 3) [(15, (.val (.int .i64 (IntKind.wrap IntKind.i64 (c + (7 : Int))))))] (.val (.int .i64 3)) ∧
 Q (.row 1 4 0 4) ⟨[(.cells [(.val (.int .u32 (a))), (.val (.int .i64 (n)))]), (.cells [(.val (.int .u32 (h))), (.val (.int .i64 (c)))]), .gone, .gone, (.row [(.val (.int .u8 (IntKind.wrap IntKind.u8 c))), (.val (.int .u8 (IntKind.wrap IntKind.u8 (Int.fdiv h ((2 : Int) ^ min (Int.toNat (IntKind.wrap IntKind.u64 (IntKind.wrap IntKind.i64 ((24 : Int) - IntKind.wrap IntKind.i64 ((8 : Int) * (0 : Int)))))) (IntKind.bits IntKind.u32)))))), (.val (.int .u8 (IntKind.wrap IntKind.u8 (Int.fdiv h ((2 : Int) ^ min (Int.toNat (IntKind.wrap IntKind.u64 (IntKind.wrap IntKind.i64 ((24 : Int) - IntKind.wrap IntKind.i64 ((8 : Int) * IntKind.wrap IntKind.i64 ((0 : Int) + (1 : Int))))))) (IntKind.bits IntKind.u32)))))), (.val (.int .u8 (IntKind.wrap IntKind.u8 (Int.fdiv h ((2 : Int) ^ min (Int.toNat (IntKind.wrap IntKind.u64 (IntKind.wrap IntKind.i64 ((24 : Int) - IntKind.wrap IntKind.i64 ((8 : Int) * IntKind.wrap IntKind.i64 (IntKind.wrap IntKind.i64 ((0 : Int) + (1 : Int)) + (1 : Int))))))) (IntKind.bits IntKind.u32))))))])], []⟩))))) := by kernel_rfl
set_option maxRecDepth 100000 in
theorem ev_rb4 (a n h c : Int) (Q : TV → VT → Prop) : vcallF Try.prog noGl (rbC a n h c) (rbO 4) 300 noLp 0 rbF [.agg (pxc a n)] ⟨[],[]⟩ Q =
 ((@Eq (List TV) [(.agg [(.val (.int .u32 (a))), (.val (.int .i64 (n)))])] [(.agg [(.val (.int .u32 (a))), (.val (.int .i64 (n)))])]) ∧
 (OPure Try.prog (fun _ => .none) (.binOp .quo 3 (.tmp 15) (.const (.int .i64 8)) 3) [(15, (.val (.int .i64 (IntKind.wrap IntKind.i64 (c + (7 : Int))))))] (.val (.int .i64 4)) ∧
 (OPure Try.prog (fun _ => .none) (.binOp .quo 3 (.tmp 15) (.const (.int .i64 8)) 3) [(15, (.val (.int .i64 (IntKind.wrap IntKind.i64 (c + (7 : Int))))))] (.val (.int .i64 4)) ∧
 (OPure Try.prog (fun _ => .none) (.binOp .quo 3 (.tmp 15) (.const (.int .i64 8)) 3) [(15, (.val (.int .i64 (IntKind.wrap IntKind.i64 (c + (7 : Int))))))] (.val (.int .i64 4)) ∧
 (OPure Try.prog (fun _ => .none) (.binOp .quo 3 (.tmp 15) (.const (.int .i64 8)) 3) [(15, (.val (.int .i64 (IntKind.wrap IntKind.i64 (c + (7 : Int))))))] (.val (.int .i64 4)) ∧
 (OPure Try.prog (fun _ => .none) (.binOp .quo 3 (.tmp 15) (.const (.int .i64 8)) 3) [(15, (.val (.int .i64 (IntKind.wrap IntKind.i64 (c + (7 : Int))))))] (.val (.int .i64 4)) ∧
 Q (.row 1 5 0 5) ⟨[(.cells [(.val (.int .u32 (a))), (.val (.int .i64 (n)))]), (.cells [(.val (.int .u32 (h))), (.val (.int .i64 (c)))]), .gone, .gone, .gone, (.row [(.val (.int .u8 (IntKind.wrap IntKind.u8 c))), (.val (.int .u8 (IntKind.wrap IntKind.u8 (Int.fdiv h ((2 : Int) ^ min (Int.toNat (IntKind.wrap IntKind.u64 (IntKind.wrap IntKind.i64 ((24 : Int) - IntKind.wrap IntKind.i64 ((8 : Int) * (0 : Int)))))) (IntKind.bits IntKind.u32)))))), (.val (.int .u8 (IntKind.wrap IntKind.u8 (Int.fdiv h ((2 : Int) ^ min (Int.toNat (IntKind.wrap IntKind.u64 (IntKind.wrap IntKind.i64 ((24 : Int) - IntKind.wrap IntKind.i64 ((8 : Int) * IntKind.wrap IntKind.i64 ((0 : Int) + (1 : Int))))))) (IntKind.bits IntKind.u32)))))), (.val (.int .u8 (IntKind.wrap IntKind.u8 (Int.fdiv h ((2 : Int) ^ min (Int.toNat (IntKind.wrap IntKind.u64 (IntKind.wrap IntKind.i64 ((24 : Int) - IntKind.wrap IntKind.i64 ((8 : Int) * IntKind.wrap IntKind.i64 (IntKind.wrap IntKind.i64 ((0 : Int) + (1 : Int)) + (1 : Int))))))) (IntKind.bits IntKind.u32)))))), (.val (.int .u8 (IntKind.wrap IntKind.u8 (Int.fdiv h ((2 : Int) ^ min (Int.toNat (IntKind.wrap IntKind.u64 (IntKind.wrap IntKind.i64 ((24 : Int) - IntKind.wrap IntKind.i64 ((8 : Int) * IntKind.wrap IntKind.i64 (IntKind.wrap IntKind.i64 (IntKind.wrap IntKind.i64 ((0 : Int) + (1 : Int)) + (1 : Int)) + (1 : Int))))))) (IntKind.bits IntKind.u32))))))])], []⟩)))))) := by kernel_rfl
set_option maxRecDepth 100000 in
theorem ev_pt0 (Q : TV → VT → Prop) : vcallF Try.prog noGl noSp noOra 3000 noLp 0 ptF [.vec 2 [] .none] ⟨[],[]⟩ Q =
 (Q (.val (.slice .none 0 0)) ⟨[], []⟩ ∧
 Q (.vec 2 [] .full) ⟨[], []⟩) := by kernel_rfl
set_option maxRecDepth 100000 in
theorem ev_pt (R : Prop) (L : List (List TV)) (n : Nat) (cs cs2 : List TV) (D : Nat → List TV → Prop) (Q : TV → VT → Prop) : vcallF Try.prog noGl (ptC R L n cs cs2 D) (tell [(999998, .dead)]) 300 noLp 0 ptF [.vec 2 L .none] ⟨[],[]⟩ Q =
 (((@Eq (Nat) 0 0) ∧
 ((@Eq (List TV) [(.vec 2 (L) .none)] [(.vec 2 (L) .none)]) ∧
 (@Eq (VT) ⟨[], []⟩ ⟨[], []⟩))) ∧
 (R  ∧
 (((@Eq (Nat) 0 0) ∧
 ((@Eq (List TV) [(.row 2 0 0 (n)), (.fn (.func 14) [] [])] [(.row 2 0 0 (n)), (.fn (.func 14) [] [])]) ∧
 (@Eq (VT) ⟨[(.row (cs))], []⟩ ⟨[(.row (cs))], []⟩))) ∧
 (R  ∧
 (((@Eq (Nat) 0 0) ∧
 ((@Eq (List TV) [(.row 2 0 0 (n))] [(.row 2 0 0 (n))]) ∧
 (@Eq (VT) ⟨[(.row (cs2))], []⟩ ⟨[(.row (cs2))], []⟩))) ∧
 (∀ k : Nat, (∀ cs3 : List TV, (D (k) (cs3) → Q (.row 2 0 0 (k)) ⟨[(.row (cs3))], []⟩)))))))) := by kernel_rfl
set_option maxRecDepth 100000 in
theorem ev_pr (R : Prop) (L S B : List (List TV)) (zs : List Int) : vcallF Try.prog noGl (prC R L S B) (tell [(999999, .dead), (15, .val (.string (bstrZ zs))), (18, .val (.string (bstrZ zs)))]) 300 noLp 0 prF [.vec 2 L .none] ⟨[],[]⟩ isTrueV =
 (bif decide ((↑(List.length L) : Int) > (200 : Int))
 then True 
 else (R  ∧
 ((@Eq (List TV) [(.vec 2 (L) .none)] [(.vec 2 (L) .none)]) ∧
 (R  ∧
 ((@Eq (List TV) [(.vec 2 (L) .none)] [(.vec 2 (L) .none)]) ∧
 (R  ∧
 ((@Eq (List TV) [(.vec 2 (S) .none), (.vec 2 (S) .none)] [(.vec 2 (S) .none), (.vec 2 (S) .none)]) ∧
 (R  ∧
 ((@Eq (List TV) [(.vec 2 (L) .none)] [(.vec 2 (L) .none)]) ∧
 (OTake Try.prog (fun _ => .none) ⟨[], []⟩ false (.convert 26 9 (.tmp 14)) [(14, (.vec 1 (B) .none))] (.val (.string (bstrZ zs))) ∧
 (R  ∧
 ((@Eq (List TV) [(.vec 2 (L) .none)] [(.vec 2 (L) .none)]) ∧
 (OTake Try.prog (fun _ => .none) ⟨[], []⟩ true (.convert 26 9 (.tmp 17)) [(17, (.vec 1 (B) .none))] (.val (.string (bstrZ zs))) ∧
 (bif eqRes BinOp.eql (keyEq (Value.string (bstrZ zs)) (Value.string (bstrZ zs)))
 then True 
 else False )))))))))))))) := by kernel_rfl
end Go.Proofs.Ytjkagifpnieehaa
