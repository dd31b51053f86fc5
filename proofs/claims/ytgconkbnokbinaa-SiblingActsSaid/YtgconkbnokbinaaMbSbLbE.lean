/- Siblings: what the kernel leaves of act and of SiblingBest. -/
import Derived.Test.YtgconkbnokbinaaMbSbBe
namespace Go.Proofs.Ytgconkbnokbinaa
open Go.RowKit

abbrev laF := 3
abbrev acF := 7
abbrev neF := 6
abbrev lvF := 5
abbrev rAdF := 18
abbrev rRmF := 20
abbrev rRpF := 21
abbrev rFiF := 34
def acC (k i a c p u : Int) : List TV := [.val (.int .i64 k), .val (.int .i64 i), .val (.int .u32 a), .val (.int .i64 c), .val (.int .i64 p), .val (.int .i64 u)]
def mT (L : List (List TV)) : VT := ⟨[.cells [.vec 5 L .none]], []⟩
def mT0 : VT := ⟨[.cells [.val (.slice none 0 0)]], []⟩
def aT (lk lk2 : Value → Option TV) (es es2 : List (Value × TV × Nat)) (ck ck2 : Nat) (m : TV) : VT := ⟨[.cells [.map 1, .map 2], .map kI lk es ck, .map kI lk2 es2 ck2, .cells [m]], []⟩
def tWi (os : List VO) (ys0 : List TV) (Tb : Int → (Value → Option TV) → (Value → Option TV) → List (Value × TV × Nat) → List (Value × TV × Nat) → Nat → Nat → Prop) : Spec := fun ro ys T K => (ro = 0 ∧ ys = ys0 ∧ T.objs.take 3 = os) ∧ ∀ y ka kb ea eb ca cb, Tb y ka kb ea eb ca cb → K (.val (.int .i64 y)) ⟨.cells [.map 1, .map 2] :: .map kI ka ea ca :: .map kI kb eb cb :: T.objs.drop 3, T.tails⟩
def tWb (os : List VO) (ys0 : List TV) (Tb : Bool → (Value → Option TV) → (Value → Option TV) → List (Value × TV × Nat) → List (Value × TV × Nat) → Nat → Nat → Prop) : Spec := fun ro ys T K => (ro = 0 ∧ ys = ys0 ∧ T.objs.take 3 = os) ∧ ∀ y ka kb ea eb ca cb, Tb y ka kb ea eb ca cb → K (.val (.bool y)) ⟨.cells [.map 1, .map 2] :: .map kI ka ea ca :: .map kI kb eb cb :: T.objs.drop 3, T.tails⟩
def mWi (m0 : TV) (ys0 : List TV) (Mb : Int → TV → Prop) : Spec := fun ro ys T K => (ro = 0 ∧ ys = ys0 ∧ T.objs[3]? = some (.cells [m0])) ∧ ∀ z mz, Mb z mz → K (.val (.int .i64 z)) { T with objs := T.objs.set 3 (.cells [mz]) }
def mWb (m0 : TV) (ys0 : List TV) (Mb : Bool → TV → Prop) : Spec := fun ro ys T K => (ro = 0 ∧ ys = ys0 ∧ T.objs[3]? = some (.cells [m0])) ∧ ∀ z mz, Mb z mz → K (.val (.bool z)) { T with objs := T.objs.set 3 (.cells [mz]) }
abbrev TbI := Int → (Value → Option TV) → (Value → Option TV) → List (Value × TV × Nat) → List (Value × TV × Nat) → Nat → Nat → Prop
abbrev TbB := Bool → (Value → Option TV) → (Value → Option TV) → List (Value × TV × Nat) → List (Value × TV × Nat) → Nat → Nat → Prop
def lT (lk lk2 : Value → Option TV) (es es2 : List (Value × TV × Nat)) (ck ck2 : Nat) (l : List VO) : VT := ⟨.map kI lk es ck :: .map kI lk2 es2 ck2 :: .cells [.map 0, .map 1] :: l, []⟩
def cpLW (os : List VO) (cap : Int → Int → Int) : Spec := fun ro ys T K => match ys with
  | [.ptr 2 0, .val (.int .i64 i), .val (.int .i64 n)] => (ro = 0 ∧ T.objs.take 3 = os) ∧ K (.val (.int .i64 (cap i n))) T
  | _ => vbad 70 default ys
def neW : Spec := fun ro ys T K => (ro = 0 ∧ ys = [] ∧ T = ⟨[], []⟩) ∧ K (.ptr 2 0) (lT (fun _ => none) (fun _ => none) [] [] 0 0 [])
def acW (T0 : VT) (ys0 : List TV) (l : List VO) (Tb : TbB) : Spec := fun ro ys T K => (ro = 0 ∧ ys = ys0 ∧ T = T0) ∧ ∀ y ka kb ea eb ca cb mz, Tb y ka kb ea eb ca cb → K (.val (.bool y)) (lT ka kb ea eb ca cb (l ++ [.cells [mz]]))
def b0K : List Nat := [1, 5, 29, 30, 31]
def b0V (n : Int) (L : List (List TV)) (j : Int) : List TV := [.val (.int .i64 n), .ptr 2 0, .vec 6 L .none, .val (.int .i64 L.length), .val (.int .i64 j)]
def b2K : List Nat := [1, 5, 8, 9, 48, 49, 50]
def b2V (n : Int) (b : Bool) (A : List (List TV)) (j : Int) : List TV := [.val (.int .i64 n), .ptr 2 0, .ptr 3 0, .val (.bool b), .vec 3 A .none, .val (.int .i64 A.length), .val (.int .i64 j)]
def b4K : List Nat := [1, 5, 13, 118, 119, 120]
def b4V (n u : Int) (A : List (List TV)) (j : Int) : List TV := [.val (.int .i64 n), .ptr 2 0, .val (.int .i64 u), .vec 3 A .none, .val (.int .i64 A.length), .val (.int .i64 j)]
abbrev Tb6 := (Value → Option TV) → (Value → Option TV) → List (Value × TV × Nat) → List (Value × TV × Nat) → Nat → Nat → Prop
def tabAt (Tb : Tb6) (T : VT) : Prop := match T.objs with
  | .map _ lk es ck :: .map _ lk2 es2 ck2 :: l => T.objs.take 3 = (lT lk lk2 es es2 ck ck2 []).objs ∧ Tb lk lk2 es es2 ck ck2
  | _ => vbad 71 default []
def tbLW (Tb : Tb6) (ys0 : List TV) (x : TV) : Spec := fun ro ys T K => (ro = 0 ∧ ys = ys0 ∧ tabAt Tb T) ∧ K x T
def b0L (Tb : Tb6) (n : Int) (L : List (List TV)) : LSpec := loopL 145 b0K [] (b0V n L 0) (lT (fun _ => none) (fun _ => none) [] [] 0 0 []) fun K => ∀ ka kb ea eb ca cb, Tb ka kb ea eb ca cb → K .normal (slotsN 145 b0K (b0V n L L.length)) (lT ka kb ea eb ca cb []) []
def bnL (Tb : Tb6) (keys : List Nat) (vs0 vs1 : List TV) (l : List VO) : LSpec := fun rd ro σ T D K => (rd = none ∧ ro = 0 ∧ D = [] ∧ Nat.beq σ.length 145 = true ∧ pick keys σ = vs0 ∧ tabAt Tb T ∧ T.objs.drop 3 = l ∧ T.tails = []) ∧ K .normal (slotsN 145 keys vs1) T []
def lawL (Tb : Tb6) (n : Int) (L A : List (List TV)) (b : Bool) (i a c u : Int) (c0 c2 c4 : Code) : Nat → Option (LSpec × Code) := specsL [(0, b0L Tb n L, c0), (2, bnL Tb b2K (b2V n b A 0) (b2V n b A A.length) [.cells (siC i a c)], c2), (4, bnL Tb b4K (b4V n u A 0) (b4V n u A A.length) [.cells (siC i a c)], c4)]
set_option maxRecDepth 100000 in
theorem ev_ac (lk lk2 : Value → Option TV) (es es2 : List (Value × TV × Nat)) (ck ck2 : Nat) (m : TV) (k i a c p u : Int) (Ta Tp : TbI) (Tr : TbB) (Ma Mp : Int → TV → Prop) (Mr : Bool → TV → Prop) (Q : TV → VT → Prop) : vcallF Try.prog noGl (specs [(adF, tWi (sT lk lk2 es es2 ck ck2).objs [.ptr 0 0, .agg (siC i a c)] Ta), (rmF, tWb (sT lk lk2 es es2 ck ck2).objs [.ptr 0 0, .val (.int .i64 i)] Tr), (rpF, tWi (sT lk lk2 es es2 ck ck2).objs [.ptr 0 0, .val (.int .i64 i), .val (.int .i64 p), .val (.int .i64 u)] Tp), (rAdF, mWi m [.ptr 3 0, .agg (siC i a c)] Ma), (rRmF, mWb m [.ptr 3 0, .val (.int .i64 i)] Mr), (rRpF, mWi m [.ptr 3 0, .val (.int .i64 i), .val (.int .i64 p), .val (.int .i64 u)] Mp)]) (tells [(999998, .dead, none)]) 300 noLp 0 acF [.ptr 0 0, .ptr 3 0, .agg (acC k i a c p u)] (aT lk lk2 es es2 ck ck2 m) Q =
 (bif eqRes BinOp.eql (keyEq (Value.int IntKind.i64 k) (Value.int IntKind.i64 (0 : Int)))
 then (((@Eq (Nat) 0 0) ∧
 ((@Eq (List TV) [(.ptr 0 0), (.agg [(.val (.int .i64 (i))), (.val (.int .u32 (a))), (.val (.int .i64 (c)))])] [(.ptr 0 0), (.agg [(.val (.int .i64 (i))), (.val (.int .u32 (a))), (.val (.int .i64 (c)))])]) ∧
 (@Eq (List VO) [(.cells [(.map 1), (.map 2)]), (.map ⟨false, [(.int .i64)]⟩ (lk) (es) (ck)), (.map ⟨false, [(.int .i64)]⟩ (lk2) (es2) (ck2))] [(.cells [(.map 1), (.map 2)]), (.map ⟨false, [(.int .i64)]⟩ (lk) (es) (ck)), (.map ⟨false, [(.int .i64)]⟩ (lk2) (es2) (ck2))]))) ∧
 (∀ y : Int, (∀ ka : Value → Option TV, (∀ kb : Value → Option TV, (∀ ea : List (Value × TV × Nat), (∀ eb : List (Value × TV × Nat), (∀ ca : Nat, (∀ cb : Nat, (Ta (y) (ka) (kb) (ea) (eb) (ca) (cb) → (((@Eq (Option TV) (.some (.agg [(.val (.int .i64 (i))), (.val (.int .u32 (a))), (.val (.int .i64 (c)))])) (.some (.agg [(.val (.int .i64 (i))), (.val (.int .u32 (a))), (.val (.int .i64 (c)))]))) ∧
 ((@Eq (Option TV) (.some (.agg [(.val (.int .i64 (i))), (.val (.int .u32 (a))), (.val (.int .i64 (c)))])) (.some (.agg [(.val (.int .i64 (i))), (.val (.int .u32 (a))), (.val (.int .i64 (c)))]))) ∧
 True )) ∧
 (((@Eq (Nat) 0 0) ∧
 ((@Eq (List TV) [(.ptr 3 0), (.agg [(.val (.int .i64 (i))), (.val (.int .u32 (a))), (.val (.int .i64 (c)))])] [(.ptr 3 0), (.agg [(.val (.int .i64 (i))), (.val (.int .u32 (a))), (.val (.int .i64 (c)))])]) ∧
 (@Eq (Option VO) (.some (.cells [(m)])) (.some (.cells [(m)]))))) ∧
 (∀ z : Int, (∀ mz : TV, (Ma (z) (mz) → Q (.val (.bool (eqRes BinOp.eql (keyEq (Value.int IntKind.i64 y) (Value.int IntKind.i64 z))))) ⟨[(.cells [(.map 1), (.map 2)]), (.map ⟨false, [(.int .i64)]⟩ (ka) (ea) (ca)), (.map ⟨false, [(.int .i64)]⟩ (kb) (eb) (cb)), (.cells [(mz)]), (.cells [(.val (.int .i64 (k))), (.val (.int .i64 (i))), (.val (.int .u32 (a))), (.val (.int .i64 (c))), (.val (.int .i64 (p))), (.val (.int .i64 (u)))])], []⟩))))))))))))))
 else (bif eqRes BinOp.eql (keyEq (Value.int IntKind.i64 k) (Value.int IntKind.i64 (1 : Int)))
 then (((@Eq (Nat) 0 0) ∧
 ((@Eq (List TV) [(.ptr 0 0), (.val (.int .i64 (i)))] [(.ptr 0 0), (.val (.int .i64 (i)))]) ∧
 (@Eq (List VO) [(.cells [(.map 1), (.map 2)]), (.map ⟨false, [(.int .i64)]⟩ (lk) (es) (ck)), (.map ⟨false, [(.int .i64)]⟩ (lk2) (es2) (ck2))] [(.cells [(.map 1), (.map 2)]), (.map ⟨false, [(.int .i64)]⟩ (lk) (es) (ck)), (.map ⟨false, [(.int .i64)]⟩ (lk2) (es2) (ck2))]))) ∧
 (∀ y : Bool, (∀ ka : Value → Option TV, (∀ kb : Value → Option TV, (∀ ea : List (Value × TV × Nat), (∀ eb : List (Value × TV × Nat), (∀ ca : Nat, (∀ cb : Nat, (Tr (y) (ka) (kb) (ea) (eb) (ca) (cb) → (((@Eq (Option TV) (.some (.val (.int .i64 (i)))) (.some (.val (.int .i64 (i))))) ∧
 ((@Eq (Option TV) (.some (.val (.int .i64 (i)))) (.some (.val (.int .i64 (i))))) ∧
 True )) ∧
 (((@Eq (Nat) 0 0) ∧
 ((@Eq (List TV) [(.ptr 3 0), (.val (.int .i64 (i)))] [(.ptr 3 0), (.val (.int .i64 (i)))]) ∧
 (@Eq (Option VO) (.some (.cells [(m)])) (.some (.cells [(m)]))))) ∧
 (∀ z : Bool, (∀ mz : TV, (Mr (z) (mz) → Q (.val (.bool (eqRes BinOp.eql (keyEq (Value.bool y) (Value.bool z))))) ⟨[(.cells [(.map 1), (.map 2)]), (.map ⟨false, [(.int .i64)]⟩ (ka) (ea) (ca)), (.map ⟨false, [(.int .i64)]⟩ (kb) (eb) (cb)), (.cells [(mz)]), (.cells [(.val (.int .i64 (k))), (.val (.int .i64 (i))), (.val (.int .u32 (a))), (.val (.int .i64 (c))), (.val (.int .i64 (p))), (.val (.int .i64 (u)))])], []⟩))))))))))))))
 else (((@Eq (Nat) 0 0) ∧
 ((@Eq (List TV) [(.ptr 0 0), (.val (.int .i64 (i))), (.val (.int .i64 (p))), (.val (.int .i64 (u)))] [(.ptr 0 0), (.val (.int .i64 (i))), (.val (.int .i64 (p))), (.val (.int .i64 (u)))]) ∧
 (@Eq (List VO) [(.cells [(.map 1), (.map 2)]), (.map ⟨false, [(.int .i64)]⟩ (lk) (es) (ck)), (.map ⟨false, [(.int .i64)]⟩ (lk2) (es2) (ck2))] [(.cells [(.map 1), (.map 2)]), (.map ⟨false, [(.int .i64)]⟩ (lk) (es) (ck)), (.map ⟨false, [(.int .i64)]⟩ (lk2) (es2) (ck2))]))) ∧
 (∀ y : Int, (∀ ka : Value → Option TV, (∀ kb : Value → Option TV, (∀ ea : List (Value × TV × Nat), (∀ eb : List (Value × TV × Nat), (∀ ca : Nat, (∀ cb : Nat, (Tp (y) (ka) (kb) (ea) (eb) (ca) (cb) → (((@Eq (Option TV) (.some (.val (.int .i64 (u)))) (.some (.val (.int .i64 (u))))) ∧
 ((@Eq (Option TV) (.some (.val (.int .i64 (p)))) (.some (.val (.int .i64 (p))))) ∧
 ((@Eq (Option TV) (.some (.val (.int .i64 (i)))) (.some (.val (.int .i64 (i))))) ∧
 ((@Eq (Option TV) (.some (.val (.int .i64 (u)))) (.some (.val (.int .i64 (u))))) ∧
 ((@Eq (Option TV) (.some (.val (.int .i64 (p)))) (.some (.val (.int .i64 (p))))) ∧
 ((@Eq (Option TV) (.some (.val (.int .i64 (i)))) (.some (.val (.int .i64 (i))))) ∧
 True )))))) ∧
 (((@Eq (Nat) 0 0) ∧
 ((@Eq (List TV) [(.ptr 3 0), (.val (.int .i64 (i))), (.val (.int .i64 (p))), (.val (.int .i64 (u)))] [(.ptr 3 0), (.val (.int .i64 (i))), (.val (.int .i64 (p))), (.val (.int .i64 (u)))]) ∧
 (@Eq (Option VO) (.some (.cells [(m)])) (.some (.cells [(m)]))))) ∧
 (∀ z : Int, (∀ mz : TV, (Mp (z) (mz) → Q (.val (.bool (eqRes BinOp.eql (keyEq (Value.int IntKind.i64 y) (Value.int IntKind.i64 z))))) ⟨[(.cells [(.map 1), (.map 2)]), (.map ⟨false, [(.int .i64)]⟩ (ka) (ea) (ca)), (.map ⟨false, [(.int .i64)]⟩ (kb) (eb) (cb)), (.cells [(mz)]), (.cells [(.val (.int .i64 (k))), (.val (.int .i64 (i))), (.val (.int .u32 (a))), (.val (.int .i64 (c))), (.val (.int .i64 (p))), (.val (.int .i64 (u)))])], []⟩)))))))))))))))) := by kernel_rfl
set_option maxRecDepth 100000 in
theorem ev_b0 (lk lk2 : Value → Option TV) (es es2 : List (Value × TV × Nat)) (ck ck2 : Nat) (L : List (List TV)) (n k i a c p u : Int) (j : Nat) (Tb : TbB) (Q : Exit → List TV → VT → List Nat → Nat → Prop) : vx Try.prog noGl (specs [(acF, acW (lT lk lk2 es es2 ck ck2 [.cells (acC k i a c p u), .cells [.val (.slice none 0 0)]]) [.ptr 2 0, .ptr 4 0, .agg (acC k i a c p u)] [.cells (acC k i a c p u)] Tb)]) (tellS [(999998, .dead, none), (33, .elt (acC k i a c p u), none)]) 300 noLp none 0 (loopAt Try.prog laF 0) (slotsN 145 b0K (b0V n L j)) (lT lk lk2 es es2 ck ck2 []) [] (pickS b0K Q) =
 (bif decide ((↑j : Int) < (↑(List.length L) : Int))
 then (OPure Try.prog (fun _ => .none) (.indexAddr 22 (.tmp 29) (.tmp 31)) [(29, (.vec 6 (L) .none)), (31, (.val (.int .i64 ((↑j : Int)))))] (.elt [(.val (.int .i64 (k))), (.val (.int .i64 (i))), (.val (.int .u32 (a))), (.val (.int .i64 (c))), (.val (.int .i64 (p))), (.val (.int .i64 (u)))]) ∧
 (((@Eq (Nat) 0 0) ∧
 ((@Eq (List TV) [(.ptr 2 0), (.ptr 4 0), (.agg [(.val (.int .i64 (k))), (.val (.int .i64 (i))), (.val (.int .u32 (a))), (.val (.int .i64 (c))), (.val (.int .i64 (p))), (.val (.int .i64 (u)))])] [(.ptr 2 0), (.ptr 4 0), (.agg [(.val (.int .i64 (k))), (.val (.int .i64 (i))), (.val (.int .u32 (a))), (.val (.int .i64 (c))), (.val (.int .i64 (p))), (.val (.int .i64 (u)))])]) ∧
 (@Eq (VT) ⟨[(.map ⟨false, [(.int .i64)]⟩ (lk) (es) (ck)), (.map ⟨false, [(.int .i64)]⟩ (lk2) (es2) (ck2)), (.cells [(.map 0), (.map 1)]), (.cells [(.val (.int .i64 (k))), (.val (.int .i64 (i))), (.val (.int .u32 (a))), (.val (.int .i64 (c))), (.val (.int .i64 (p))), (.val (.int .i64 (u)))]), (.cells [(.val (.slice .none 0 0))])], []⟩ ⟨[(.map ⟨false, [(.int .i64)]⟩ (lk) (es) (ck)), (.map ⟨false, [(.int .i64)]⟩ (lk2) (es2) (ck2)), (.cells [(.map 0), (.map 1)]), (.cells [(.val (.int .i64 (k))), (.val (.int .i64 (i))), (.val (.int .u32 (a))), (.val (.int .i64 (c))), (.val (.int .i64 (p))), (.val (.int .i64 (u)))]), (.cells [(.val (.slice .none 0 0))])], []⟩))) ∧
 (∀ y : Bool, (∀ ka : Value → Option TV, (∀ kb : Value → Option TV, (∀ ea : List (Value × TV × Nat), (∀ eb : List (Value × TV × Nat), (∀ ca : Nat, (∀ cb : Nat, (∀ mz : TV, (Tb (y) (ka) (kb) (ea) (eb) (ca) (cb) → Q .normal [(.val (.int .i64 (n))), (.ptr 2 0), (.vec 6 (L) .none), (.val (.int .i64 ((↑(List.length L) : Int)))), (.val (.int .i64 (IntKind.wrap IntKind.i64 ((↑j : Int) + (1 : Int)))))] ⟨[(.map ⟨false, [(.int .i64)]⟩ (ka) (ea) (ca)), (.map ⟨false, [(.int .i64)]⟩ (kb) (eb) (cb)), (.cells [(.map 0), (.map 1)]), (.cells [(.val (.int .i64 (k))), (.val (.int .i64 (i))), (.val (.int .u32 (a))), (.val (.int .i64 (c))), (.val (.int .i64 (p))), (.val (.int .i64 (u)))]), (.cells [(mz)])], []⟩ [] 145)))))))))))
 else Q (.exit 0) [(.val (.int .i64 (n))), (.ptr 2 0), (.vec 6 (L) .none), (.val (.int .i64 ((↑(List.length L) : Int)))), (.val (.int .i64 ((↑j : Int))))] ⟨[(.map ⟨false, [(.int .i64)]⟩ (lk) (es) (ck)), (.map ⟨false, [(.int .i64)]⟩ (lk2) (es2) (ck2)), (.cells [(.map 0), (.map 1)])], []⟩ [] 145) := by kernel_rfl
set_option maxRecDepth 100000 in
theorem ev_b2 (lk lk2 : Value → Option TV) (es es2 : List (Value × TV × Nat)) (ck ck2 : Nat) (A : List (List TV)) (cap : Int → Int → Int) (b : Bool) (n i a c i' a' c' : Int) (j : Nat) (Q : Exit → List TV → VT → List Nat → Nat → Prop) : vx Try.prog noGl (specs [(cpF, cpLW (lT lk lk2 es es2 ck ck2 []).objs cap)]) (tellS [(999998, .dead, none), (52, .elt (siC i a c), none)]) 300 noLp none 0 (loopAt Try.prog laF 2) (slotsN 145 b2K (b2V n b A j)) (lT lk lk2 es es2 ck ck2 [.cells (siC i' a' c')]) [] (pickS b2K Q) =
 (bif decide ((↑j : Int) < (↑(List.length A) : Int))
 then (OPure Try.prog (fun _ => .none) (.indexAddr 38 (.tmp 48) (.tmp 50)) [(48, (.vec 3 (A) .none)), (50, (.val (.int .i64 ((↑j : Int)))))] (.elt [(.val (.int .i64 (i))), (.val (.int .u32 (a))), (.val (.int .i64 (c)))]) ∧
 (((@Eq (Nat) 0 0) ∧
 (@Eq (List VO) [(.map ⟨false, [(.int .i64)]⟩ (lk) (es) (ck)), (.map ⟨false, [(.int .i64)]⟩ (lk2) (es2) (ck2)), (.cells [(.map 0), (.map 1)])] [(.map ⟨false, [(.int .i64)]⟩ (lk) (es) (ck)), (.map ⟨false, [(.int .i64)]⟩ (lk2) (es2) (ck2)), (.cells [(.map 0), (.map 1)])])) ∧
 (bif decide (cap i n > (0 : Int))
 then (bif !b
 then Q .ret [(.val (.int .i64 (n))), (.ptr 2 0), (.ptr 3 0), (.val (.bool (b))), (.vec 3 (A) .none), (.val (.int .i64 ((↑(List.length A) : Int)))), (.val (.int .i64 ((↑j : Int))))] ⟨[(.map ⟨false, [(.int .i64)]⟩ (lk) (es) (ck)), (.map ⟨false, [(.int .i64)]⟩ (lk2) (es2) (ck2)), (.cells [(.map 0), (.map 1)]), (.cells [(.val (.int .i64 (i'))), (.val (.int .u32 (a'))), (.val (.int .i64 (c')))]), (.cells [(.val (.int .i64 (i))), (.val (.int .u32 (a))), (.val (.int .i64 (c)))])], []⟩ [] 145
 else (bif decide (c < c')
 then Q .ret [(.val (.int .i64 (n))), (.ptr 2 0), (.ptr 3 0), (.val (.bool (b))), (.vec 3 (A) .none), (.val (.int .i64 ((↑(List.length A) : Int)))), (.val (.int .i64 ((↑j : Int))))] ⟨[(.map ⟨false, [(.int .i64)]⟩ (lk) (es) (ck)), (.map ⟨false, [(.int .i64)]⟩ (lk2) (es2) (ck2)), (.cells [(.map 0), (.map 1)]), (.cells [(.val (.int .i64 (i'))), (.val (.int .u32 (a'))), (.val (.int .i64 (c')))]), (.cells [(.val (.int .i64 (i))), (.val (.int .u32 (a))), (.val (.int .i64 (c)))])], []⟩ [] 145
 else (bif eqRes BinOp.eql (keyEq (Value.int IntKind.i64 c) (Value.int IntKind.i64 c'))
 then (bif decide (i < i')
 then Q .ret [(.val (.int .i64 (n))), (.ptr 2 0), (.ptr 3 0), (.val (.bool (b))), (.vec 3 (A) .none), (.val (.int .i64 ((↑(List.length A) : Int)))), (.val (.int .i64 ((↑j : Int))))] ⟨[(.map ⟨false, [(.int .i64)]⟩ (lk) (es) (ck)), (.map ⟨false, [(.int .i64)]⟩ (lk2) (es2) (ck2)), (.cells [(.map 0), (.map 1)]), (.cells [(.val (.int .i64 (i'))), (.val (.int .u32 (a'))), (.val (.int .i64 (c')))]), (.cells [(.val (.int .i64 (i))), (.val (.int .u32 (a))), (.val (.int .i64 (c)))])], []⟩ [] 145
 else (bif b
 then (bif eqRes BinOp.eql (keyEq (Value.int IntKind.i64 i) (Value.int IntKind.i64 i'))
 then (bif decide (cap i n < (1 : Int))
 then Q .ret [(.val (.int .i64 (n))), (.ptr 2 0), (.ptr 3 0), (.val (.bool (b))), (.vec 3 (A) .none), (.val (.int .i64 ((↑(List.length A) : Int)))), (.val (.int .i64 ((↑j : Int))))] ⟨[(.map ⟨false, [(.int .i64)]⟩ (lk) (es) (ck)), (.map ⟨false, [(.int .i64)]⟩ (lk2) (es2) (ck2)), (.cells [(.map 0), (.map 1)]), (.cells [(.val (.int .i64 (i'))), (.val (.int .u32 (a'))), (.val (.int .i64 (c')))]), (.cells [(.val (.int .i64 (i))), (.val (.int .u32 (a))), (.val (.int .i64 (c)))])], []⟩ [] 145
 else Q .normal [(.val (.int .i64 (n))), (.ptr 2 0), (.ptr 3 0), (.val (.bool (b))), (.vec 3 (A) .none), (.val (.int .i64 ((↑(List.length A) : Int)))), (.val (.int .i64 (IntKind.wrap IntKind.i64 ((↑j : Int) + (1 : Int)))))] ⟨[(.map ⟨false, [(.int .i64)]⟩ (lk) (es) (ck)), (.map ⟨false, [(.int .i64)]⟩ (lk2) (es2) (ck2)), (.cells [(.map 0), (.map 1)]), (.cells [(.val (.int .i64 (i'))), (.val (.int .u32 (a'))), (.val (.int .i64 (c')))]), (.cells [(.val (.int .i64 (i))), (.val (.int .u32 (a))), (.val (.int .i64 (c)))])], []⟩ [] 145)
 else Q .normal [(.val (.int .i64 (n))), (.ptr 2 0), (.ptr 3 0), (.val (.bool (b))), (.vec 3 (A) .none), (.val (.int .i64 ((↑(List.length A) : Int)))), (.val (.int .i64 (IntKind.wrap IntKind.i64 ((↑j : Int) + (1 : Int)))))] ⟨[(.map ⟨false, [(.int .i64)]⟩ (lk) (es) (ck)), (.map ⟨false, [(.int .i64)]⟩ (lk2) (es2) (ck2)), (.cells [(.map 0), (.map 1)]), (.cells [(.val (.int .i64 (i'))), (.val (.int .u32 (a'))), (.val (.int .i64 (c')))]), (.cells [(.val (.int .i64 (i))), (.val (.int .u32 (a))), (.val (.int .i64 (c)))])], []⟩ [] 145)
 else Q .normal [(.val (.int .i64 (n))), (.ptr 2 0), (.ptr 3 0), (.val (.bool (b))), (.vec 3 (A) .none), (.val (.int .i64 ((↑(List.length A) : Int)))), (.val (.int .i64 (IntKind.wrap IntKind.i64 ((↑j : Int) + (1 : Int)))))] ⟨[(.map ⟨false, [(.int .i64)]⟩ (lk) (es) (ck)), (.map ⟨false, [(.int .i64)]⟩ (lk2) (es2) (ck2)), (.cells [(.map 0), (.map 1)]), (.cells [(.val (.int .i64 (i'))), (.val (.int .u32 (a'))), (.val (.int .i64 (c')))]), (.cells [(.val (.int .i64 (i))), (.val (.int .u32 (a))), (.val (.int .i64 (c)))])], []⟩ [] 145))
 else (bif b
 then (bif eqRes BinOp.eql (keyEq (Value.int IntKind.i64 i) (Value.int IntKind.i64 i'))
 then (bif decide (cap i n < (1 : Int))
 then Q .ret [(.val (.int .i64 (n))), (.ptr 2 0), (.ptr 3 0), (.val (.bool (b))), (.vec 3 (A) .none), (.val (.int .i64 ((↑(List.length A) : Int)))), (.val (.int .i64 ((↑j : Int))))] ⟨[(.map ⟨false, [(.int .i64)]⟩ (lk) (es) (ck)), (.map ⟨false, [(.int .i64)]⟩ (lk2) (es2) (ck2)), (.cells [(.map 0), (.map 1)]), (.cells [(.val (.int .i64 (i'))), (.val (.int .u32 (a'))), (.val (.int .i64 (c')))]), (.cells [(.val (.int .i64 (i))), (.val (.int .u32 (a))), (.val (.int .i64 (c)))])], []⟩ [] 145
 else Q .normal [(.val (.int .i64 (n))), (.ptr 2 0), (.ptr 3 0), (.val (.bool (b))), (.vec 3 (A) .none), (.val (.int .i64 ((↑(List.length A) : Int)))), (.val (.int .i64 (IntKind.wrap IntKind.i64 ((↑j : Int) + (1 : Int)))))] ⟨[(.map ⟨false, [(.int .i64)]⟩ (lk) (es) (ck)), (.map ⟨false, [(.int .i64)]⟩ (lk2) (es2) (ck2)), (.cells [(.map 0), (.map 1)]), (.cells [(.val (.int .i64 (i'))), (.val (.int .u32 (a'))), (.val (.int .i64 (c')))]), (.cells [(.val (.int .i64 (i))), (.val (.int .u32 (a))), (.val (.int .i64 (c)))])], []⟩ [] 145)
 else Q .normal [(.val (.int .i64 (n))), (.ptr 2 0), (.ptr 3 0), (.val (.bool (b))), (.vec 3 (A) .none), (.val (.int .i64 ((↑(List.length A) : Int)))), (.val (.int .i64 (IntKind.wrap IntKind.i64 ((↑j : Int) + (1 : Int)))))] ⟨[(.map ⟨false, [(.int .i64)]⟩ (lk) (es) (ck)), (.map ⟨false, [(.int .i64)]⟩ (lk2) (es2) (ck2)), (.cells [(.map 0), (.map 1)]), (.cells [(.val (.int .i64 (i'))), (.val (.int .u32 (a'))), (.val (.int .i64 (c')))]), (.cells [(.val (.int .i64 (i))), (.val (.int .u32 (a))), (.val (.int .i64 (c)))])], []⟩ [] 145)
 else Q .normal [(.val (.int .i64 (n))), (.ptr 2 0), (.ptr 3 0), (.val (.bool (b))), (.vec 3 (A) .none), (.val (.int .i64 ((↑(List.length A) : Int)))), (.val (.int .i64 (IntKind.wrap IntKind.i64 ((↑j : Int) + (1 : Int)))))] ⟨[(.map ⟨false, [(.int .i64)]⟩ (lk) (es) (ck)), (.map ⟨false, [(.int .i64)]⟩ (lk2) (es2) (ck2)), (.cells [(.map 0), (.map 1)]), (.cells [(.val (.int .i64 (i'))), (.val (.int .u32 (a'))), (.val (.int .i64 (c')))]), (.cells [(.val (.int .i64 (i))), (.val (.int .u32 (a))), (.val (.int .i64 (c)))])], []⟩ [] 145))))
 else (bif b
 then (bif eqRes BinOp.eql (keyEq (Value.int IntKind.i64 i) (Value.int IntKind.i64 i'))
 then (bif decide (cap i n < (1 : Int))
 then Q .ret [(.val (.int .i64 (n))), (.ptr 2 0), (.ptr 3 0), (.val (.bool (b))), (.vec 3 (A) .none), (.val (.int .i64 ((↑(List.length A) : Int)))), (.val (.int .i64 ((↑j : Int))))] ⟨[(.map ⟨false, [(.int .i64)]⟩ (lk) (es) (ck)), (.map ⟨false, [(.int .i64)]⟩ (lk2) (es2) (ck2)), (.cells [(.map 0), (.map 1)]), (.cells [(.val (.int .i64 (i'))), (.val (.int .u32 (a'))), (.val (.int .i64 (c')))]), (.cells [(.val (.int .i64 (i))), (.val (.int .u32 (a))), (.val (.int .i64 (c)))])], []⟩ [] 145
 else Q .normal [(.val (.int .i64 (n))), (.ptr 2 0), (.ptr 3 0), (.val (.bool (b))), (.vec 3 (A) .none), (.val (.int .i64 ((↑(List.length A) : Int)))), (.val (.int .i64 (IntKind.wrap IntKind.i64 ((↑j : Int) + (1 : Int)))))] ⟨[(.map ⟨false, [(.int .i64)]⟩ (lk) (es) (ck)), (.map ⟨false, [(.int .i64)]⟩ (lk2) (es2) (ck2)), (.cells [(.map 0), (.map 1)]), (.cells [(.val (.int .i64 (i'))), (.val (.int .u32 (a'))), (.val (.int .i64 (c')))]), (.cells [(.val (.int .i64 (i))), (.val (.int .u32 (a))), (.val (.int .i64 (c)))])], []⟩ [] 145)
 else Q .normal [(.val (.int .i64 (n))), (.ptr 2 0), (.ptr 3 0), (.val (.bool (b))), (.vec 3 (A) .none), (.val (.int .i64 ((↑(List.length A) : Int)))), (.val (.int .i64 (IntKind.wrap IntKind.i64 ((↑j : Int) + (1 : Int)))))] ⟨[(.map ⟨false, [(.int .i64)]⟩ (lk) (es) (ck)), (.map ⟨false, [(.int .i64)]⟩ (lk2) (es2) (ck2)), (.cells [(.map 0), (.map 1)]), (.cells [(.val (.int .i64 (i'))), (.val (.int .u32 (a'))), (.val (.int .i64 (c')))]), (.cells [(.val (.int .i64 (i))), (.val (.int .u32 (a))), (.val (.int .i64 (c)))])], []⟩ [] 145)
 else Q .normal [(.val (.int .i64 (n))), (.ptr 2 0), (.ptr 3 0), (.val (.bool (b))), (.vec 3 (A) .none), (.val (.int .i64 ((↑(List.length A) : Int)))), (.val (.int .i64 (IntKind.wrap IntKind.i64 ((↑j : Int) + (1 : Int)))))] ⟨[(.map ⟨false, [(.int .i64)]⟩ (lk) (es) (ck)), (.map ⟨false, [(.int .i64)]⟩ (lk2) (es2) (ck2)), (.cells [(.map 0), (.map 1)]), (.cells [(.val (.int .i64 (i'))), (.val (.int .u32 (a'))), (.val (.int .i64 (c')))]), (.cells [(.val (.int .i64 (i))), (.val (.int .u32 (a))), (.val (.int .i64 (c)))])], []⟩ [] 145))))
 else Q (.exit 2) [(.val (.int .i64 (n))), (.ptr 2 0), (.ptr 3 0), (.val (.bool (b))), (.vec 3 (A) .none), (.val (.int .i64 ((↑(List.length A) : Int)))), (.val (.int .i64 ((↑j : Int))))] ⟨[(.map ⟨false, [(.int .i64)]⟩ (lk) (es) (ck)), (.map ⟨false, [(.int .i64)]⟩ (lk2) (es2) (ck2)), (.cells [(.map 0), (.map 1)]), (.cells [(.val (.int .i64 (i'))), (.val (.int .u32 (a'))), (.val (.int .i64 (c')))])], []⟩ [] 145) := by kernel_rfl
set_option maxRecDepth 100000 in
theorem ev_b4 (lk lk2 : Value → Option TV) (es es2 : List (Value × TV × Nat)) (ck ck2 : Nat) (A : List (List TV)) (cap : Int → Int → Int) (n i a c i' a' c' uu : Int) (j : Nat) (Q : Exit → List TV → VT → List Nat → Nat → Prop) : vx Try.prog noGl (specs [(cpF, cpLW (lT lk lk2 es es2 ck ck2 []).objs cap)]) (tellS [(999998, .dead, none), (122, .elt (siC i a c), none)]) 300 noLp none 0 (loopAt Try.prog laF 4) (slotsN 145 b4K (b4V n uu A j)) (lT lk lk2 es es2 ck ck2 [.cells (siC i' a' c')]) [] (pickS b4K Q) =
 (bif decide ((↑j : Int) < (↑(List.length A) : Int))
 then (OPure Try.prog (fun _ => .none) (.indexAddr 38 (.tmp 118) (.tmp 120)) [(118, (.vec 3 (A) .none)), (120, (.val (.int .i64 ((↑j : Int)))))] (.elt [(.val (.int .i64 (i))), (.val (.int .u32 (a))), (.val (.int .i64 (c)))]) ∧
 (((@Eq (Nat) 0 0) ∧
 (@Eq (List VO) [(.map ⟨false, [(.int .i64)]⟩ (lk) (es) (ck)), (.map ⟨false, [(.int .i64)]⟩ (lk2) (es2) (ck2)), (.cells [(.map 0), (.map 1)])] [(.map ⟨false, [(.int .i64)]⟩ (lk) (es) (ck)), (.map ⟨false, [(.int .i64)]⟩ (lk2) (es2) (ck2)), (.cells [(.map 0), (.map 1)])])) ∧
 (bif decide (cap i n > (0 : Int))
 then (((@Eq (Nat) 0 0) ∧
 (@Eq (List VO) [(.map ⟨false, [(.int .i64)]⟩ (lk) (es) (ck)), (.map ⟨false, [(.int .i64)]⟩ (lk2) (es2) (ck2)), (.cells [(.map 0), (.map 1)])] [(.map ⟨false, [(.int .i64)]⟩ (lk) (es) (ck)), (.map ⟨false, [(.int .i64)]⟩ (lk2) (es2) (ck2)), (.cells [(.map 0), (.map 1)])])) ∧
 (bif decide (cap i uu > (0 : Int))
 then Q .ret [(.val (.int .i64 (n))), (.ptr 2 0), (.val (.int .i64 (uu))), (.vec 3 (A) .none), (.val (.int .i64 ((↑(List.length A) : Int)))), (.val (.int .i64 ((↑j : Int))))] ⟨[(.map ⟨false, [(.int .i64)]⟩ (lk) (es) (ck)), (.map ⟨false, [(.int .i64)]⟩ (lk2) (es2) (ck2)), (.cells [(.map 0), (.map 1)]), (.cells [(.val (.int .i64 (i'))), (.val (.int .u32 (a'))), (.val (.int .i64 (c')))]), (.cells [(.val (.int .i64 (i))), (.val (.int .u32 (a))), (.val (.int .i64 (c)))])], []⟩ [] 145
 else Q .normal [(.val (.int .i64 (n))), (.ptr 2 0), (.val (.int .i64 (uu))), (.vec 3 (A) .none), (.val (.int .i64 ((↑(List.length A) : Int)))), (.val (.int .i64 (IntKind.wrap IntKind.i64 ((↑j : Int) + (1 : Int)))))] ⟨[(.map ⟨false, [(.int .i64)]⟩ (lk) (es) (ck)), (.map ⟨false, [(.int .i64)]⟩ (lk2) (es2) (ck2)), (.cells [(.map 0), (.map 1)]), (.cells [(.val (.int .i64 (i'))), (.val (.int .u32 (a'))), (.val (.int .i64 (c')))]), (.cells [(.val (.int .i64 (i))), (.val (.int .u32 (a))), (.val (.int .i64 (c)))])], []⟩ [] 145))
 else Q .normal [(.val (.int .i64 (n))), (.ptr 2 0), (.val (.int .i64 (uu))), (.vec 3 (A) .none), (.val (.int .i64 ((↑(List.length A) : Int)))), (.val (.int .i64 (IntKind.wrap IntKind.i64 ((↑j : Int) + (1 : Int)))))] ⟨[(.map ⟨false, [(.int .i64)]⟩ (lk) (es) (ck)), (.map ⟨false, [(.int .i64)]⟩ (lk2) (es2) (ck2)), (.cells [(.map 0), (.map 1)]), (.cells [(.val (.int .i64 (i'))), (.val (.int .u32 (a'))), (.val (.int .i64 (c')))]), (.cells [(.val (.int .i64 (i))), (.val (.int .u32 (a))), (.val (.int .i64 (c)))])], []⟩ [] 145)))
 else Q (.exit 4) [(.val (.int .i64 (n))), (.ptr 2 0), (.val (.int .i64 (uu))), (.vec 3 (A) .none), (.val (.int .i64 ((↑(List.length A) : Int)))), (.val (.int .i64 ((↑j : Int))))] ⟨[(.map ⟨false, [(.int .i64)]⟩ (lk) (es) (ck)), (.map ⟨false, [(.int .i64)]⟩ (lk2) (es2) (ck2)), (.cells [(.map 0), (.map 1)]), (.cells [(.val (.int .i64 (i'))), (.val (.int .u32 (a'))), (.val (.int .i64 (c')))])], []⟩ [] 145) := by kernel_rfl
set_option maxRecDepth 100000 in
theorem ev_la (Tb : Tb6) (L A : List (List TV)) (n u i a c : Int) (b so : Bool) (Q : TV → VT → Prop) : vcallF Try.prog noGl (specs [(neF, neW), (beF, tbLW Tb [.ptr 2 0, .val (.int .i64 n)] (.tup [.agg (siC i a c), .val (.bool b)])), (alF, tbLW Tb [.ptr 2 0] (.vec 3 A .none)), (unF, tbLW Tb [.ptr 2 0, .val (.int .i64 n)] (.val (.int .i64 u))), (soF, tbLW Tb [.ptr 2 0, .val (.int .i64 n)] (.val (.bool so))), (lvF, trueW)]) (tells [(999998, .dead, none)]) 300 (lawL Tb n L A b i a c u (codeAt Try.prog laF 0) (codeAt Try.prog laF 2) (codeAt Try.prog laF 4)) 0 laF [.vec 6 L .none, .val (.int .i64 n)] ⟨[], []⟩ Q =
 (bif decide ((↑(List.length L) : Int) > (100 : Int))
 then Q (.val (.bool true)) ⟨[], []⟩
 else (bif decide (n < (0 : Int))
 then Q (.val (.bool true)) ⟨[], []⟩
 else (bif decide (n > (1099511627776 : Int))
 then Q (.val (.bool true)) ⟨[], []⟩
 else (((@Eq (Nat) 0 0) ∧
 ((@Eq (List TV) [] []) ∧
 (@Eq (VT) ⟨[], []⟩ ⟨[], []⟩))) ∧
 ((codeAt Try.prog laF (0 : Nat) = codeAt Try.prog laF (0 : Nat)) ∧
 (((@Eq (Option Nat) .none .none) ∧
 ((@Eq (Nat) 0 0) ∧
 ((@Eq (List Nat) [] []) ∧
 (True  ∧
 ((@Eq (VT) ⟨[(.map ⟨false, [(.int .i64)]⟩ (fun _ => .none) [] 0), (.map ⟨false, [(.int .i64)]⟩ (fun _ => .none) [] 0), (.cells [(.map 0), (.map 1)])], []⟩ ⟨[(.map ⟨false, [(.int .i64)]⟩ (fun _ => .none) [] 0), (.map ⟨false, [(.int .i64)]⟩ (fun _ => .none) [] 0), (.cells [(.map 0), (.map 1)])], []⟩) ∧
 ((@Eq (Bool) true true) ∧
 (@Eq (List TV) [(.val (.int .i64 (n))), (.ptr 2 0), (.vec 6 (L) .none), (.val (.int .i64 ((↑(List.length L) : Int)))), (.val (.int .i64 0))] [(.val (.int .i64 (n))), (.ptr 2 0), (.vec 6 (L) .none), (.val (.int .i64 ((↑(List.length L) : Int)))), (.val (.int .i64 0))]))))))) ∧
 (∀ ka : Value → Option TV, (∀ kb : Value → Option TV, (∀ ea : List (Value × TV × Nat), (∀ eb : List (Value × TV × Nat), (∀ ca : Nat, (∀ cb : Nat, (Tb (ka) (kb) (ea) (eb) (ca) (cb) → (((@Eq (Nat) 0 0) ∧
 ((@Eq (List TV) [(.ptr 2 0), (.val (.int .i64 (n)))] [(.ptr 2 0), (.val (.int .i64 (n)))]) ∧
 ((@Eq (List VO) [(.map ⟨false, [(.int .i64)]⟩ (ka) (ea) (ca)), (.map ⟨false, [(.int .i64)]⟩ (kb) (eb) (cb)), (.cells [(.map 0), (.map 1)])] [(.map ⟨false, [(.int .i64)]⟩ (ka) (ea) (ca)), (.map ⟨false, [(.int .i64)]⟩ (kb) (eb) (cb)), (.cells [(.map 0), (.map 1)])]) ∧
 Tb (ka) (kb) (ea) (eb) (ca) (cb)))) ∧
 (((@Eq (Nat) 0 0) ∧
 ((@Eq (List TV) [(.ptr 2 0)] [(.ptr 2 0)]) ∧
 ((@Eq (List VO) [(.map ⟨false, [(.int .i64)]⟩ (ka) (ea) (ca)), (.map ⟨false, [(.int .i64)]⟩ (kb) (eb) (cb)), (.cells [(.map 0), (.map 1)])] [(.map ⟨false, [(.int .i64)]⟩ (ka) (ea) (ca)), (.map ⟨false, [(.int .i64)]⟩ (kb) (eb) (cb)), (.cells [(.map 0), (.map 1)])]) ∧
 Tb (ka) (kb) (ea) (eb) (ca) (cb)))) ∧
 ((codeAt Try.prog laF (2 : Nat) = codeAt Try.prog laF (2 : Nat)) ∧
 (((@Eq (Option Nat) .none .none) ∧
 ((@Eq (Nat) 0 0) ∧
 ((@Eq (List Nat) [] []) ∧
 ((@Eq (Bool) true true) ∧
 ((@Eq (List TV) [(.val (.int .i64 (n))), (.ptr 2 0), (.ptr 3 0), (.val (.bool (b))), (.vec 3 (A) .none), (.val (.int .i64 ((↑(List.length A) : Int)))), (.val (.int .i64 0))] [(.val (.int .i64 (n))), (.ptr 2 0), (.ptr 3 0), (.val (.bool (b))), (.vec 3 (A) .none), (.val (.int .i64 ((↑(List.length A) : Int)))), (.val (.int .i64 0))]) ∧
 (((@Eq (List VO) [(.map ⟨false, [(.int .i64)]⟩ (ka) (ea) (ca)), (.map ⟨false, [(.int .i64)]⟩ (kb) (eb) (cb)), (.cells [(.map 0), (.map 1)])] [(.map ⟨false, [(.int .i64)]⟩ (ka) (ea) (ca)), (.map ⟨false, [(.int .i64)]⟩ (kb) (eb) (cb)), (.cells [(.map 0), (.map 1)])]) ∧
 Tb (ka) (kb) (ea) (eb) (ca) (cb)) ∧
 ((@Eq (List VO) [(.cells [(.val (.int .i64 (i))), (.val (.int .u32 (a))), (.val (.int .i64 (c)))])] [(.cells [(.val (.int .i64 (i))), (.val (.int .u32 (a))), (.val (.int .i64 (c)))])]) ∧
 (@Eq (List (Nat × Nat × Bool)) [] [])))))))) ∧
 (((@Eq (Nat) 0 0) ∧
 ((@Eq (List TV) [(.ptr 2 0), (.val (.int .i64 (n)))] [(.ptr 2 0), (.val (.int .i64 (n)))]) ∧
 ((@Eq (List VO) [(.map ⟨false, [(.int .i64)]⟩ (ka) (ea) (ca)), (.map ⟨false, [(.int .i64)]⟩ (kb) (eb) (cb)), (.cells [(.map 0), (.map 1)])] [(.map ⟨false, [(.int .i64)]⟩ (ka) (ea) (ca)), (.map ⟨false, [(.int .i64)]⟩ (kb) (eb) (cb)), (.cells [(.map 0), (.map 1)])]) ∧
 Tb (ka) (kb) (ea) (eb) (ca) (cb)))) ∧
 (bif !b
 then (bif eqRes BinOp.eql (keyEq (Value.int IntKind.i64 u) (Value.int IntKind.i64 (0 : Int)))
 then (((@Eq (Nat) 0 0) ∧
 ((@Eq (List TV) [(.ptr 2 0), (.val (.int .i64 (n)))] [(.ptr 2 0), (.val (.int .i64 (n)))]) ∧
 ((@Eq (List VO) [(.map ⟨false, [(.int .i64)]⟩ (ka) (ea) (ca)), (.map ⟨false, [(.int .i64)]⟩ (kb) (eb) (cb)), (.cells [(.map 0), (.map 1)])] [(.map ⟨false, [(.int .i64)]⟩ (ka) (ea) (ca)), (.map ⟨false, [(.int .i64)]⟩ (kb) (eb) (cb)), (.cells [(.map 0), (.map 1)])]) ∧
 Tb (ka) (kb) (ea) (eb) (ca) (cb)))) ∧
 (bif !so
 then Q (.val (.bool true)) ⟨[(.map ⟨false, [(.int .i64)]⟩ (ka) (ea) (ca)), (.map ⟨false, [(.int .i64)]⟩ (kb) (eb) (cb)), (.cells [(.map 0), (.map 1)]), (.cells [(.val (.int .i64 (i))), (.val (.int .u32 (a))), (.val (.int .i64 (c)))])], []⟩
 else Q (.val (.bool false)) ⟨[(.map ⟨false, [(.int .i64)]⟩ (ka) (ea) (ca)), (.map ⟨false, [(.int .i64)]⟩ (kb) (eb) (cb)), (.cells [(.map 0), (.map 1)]), (.cells [(.val (.int .i64 (i))), (.val (.int .u32 (a))), (.val (.int .i64 (c)))])], []⟩))
 else Q (.val (.bool false)) ⟨[(.map ⟨false, [(.int .i64)]⟩ (ka) (ea) (ca)), (.map ⟨false, [(.int .i64)]⟩ (kb) (eb) (cb)), (.cells [(.map 0), (.map 1)]), (.cells [(.val (.int .i64 (i))), (.val (.int .u32 (a))), (.val (.int .i64 (c)))])], []⟩)
 else (((@Eq (Nat) 0 0) ∧
 ((@Eq (List TV) [(.ptr 2 0)] [(.ptr 2 0)]) ∧
 ((@Eq (List VO) [(.map ⟨false, [(.int .i64)]⟩ (ka) (ea) (ca)), (.map ⟨false, [(.int .i64)]⟩ (kb) (eb) (cb)), (.cells [(.map 0), (.map 1)])] [(.map ⟨false, [(.int .i64)]⟩ (ka) (ea) (ca)), (.map ⟨false, [(.int .i64)]⟩ (kb) (eb) (cb)), (.cells [(.map 0), (.map 1)])]) ∧
 Tb (ka) (kb) (ea) (eb) (ca) (cb)))) ∧
 ((codeAt Try.prog laF (4 : Nat) = codeAt Try.prog laF (4 : Nat)) ∧
 (((@Eq (Option Nat) .none .none) ∧
 ((@Eq (Nat) 0 0) ∧
 ((@Eq (List Nat) [] []) ∧
 ((@Eq (Bool) true true) ∧
 ((@Eq (List TV) [(.val (.int .i64 (n))), (.ptr 2 0), (.val (.int .i64 (u))), (.vec 3 (A) .none), (.val (.int .i64 ((↑(List.length A) : Int)))), (.val (.int .i64 0))] [(.val (.int .i64 (n))), (.ptr 2 0), (.val (.int .i64 (u))), (.vec 3 (A) .none), (.val (.int .i64 ((↑(List.length A) : Int)))), (.val (.int .i64 0))]) ∧
 (((@Eq (List VO) [(.map ⟨false, [(.int .i64)]⟩ (ka) (ea) (ca)), (.map ⟨false, [(.int .i64)]⟩ (kb) (eb) (cb)), (.cells [(.map 0), (.map 1)])] [(.map ⟨false, [(.int .i64)]⟩ (ka) (ea) (ca)), (.map ⟨false, [(.int .i64)]⟩ (kb) (eb) (cb)), (.cells [(.map 0), (.map 1)])]) ∧
 Tb (ka) (kb) (ea) (eb) (ca) (cb)) ∧
 ((@Eq (List VO) [(.cells [(.val (.int .i64 (i))), (.val (.int .u32 (a))), (.val (.int .i64 (c)))])] [(.cells [(.val (.int .i64 (i))), (.val (.int .u32 (a))), (.val (.int .i64 (c)))])]) ∧
 (@Eq (List (Nat × Nat × Bool)) [] [])))))))) ∧
 (bif decide (u > n)
 then Q (.val (.bool true)) ⟨[(.map ⟨false, [(.int .i64)]⟩ (ka) (ea) (ca)), (.map ⟨false, [(.int .i64)]⟩ (kb) (eb) (cb)), (.cells [(.map 0), (.map 1)]), (.cells [(.val (.int .i64 (i))), (.val (.int .u32 (a))), (.val (.int .i64 (c)))])], []⟩
 else Q (.val (.bool false)) ⟨[(.map ⟨false, [(.int .i64)]⟩ (ka) (ea) (ca)), (.map ⟨false, [(.int .i64)]⟩ (kb) (eb) (cb)), (.cells [(.map 0), (.map 1)]), (.cells [(.val (.int .i64 (i))), (.val (.int .u32 (a))), (.val (.int .i64 (c)))])], []⟩))))))))))))))))))))))) := by kernel_rfl
set_option maxRecDepth 100000 in
theorem ev_ne (Q : TV → VT → Prop) : vcallF Try.prog noGl noSp noOra 300 noLp 0 neF [] ⟨[], []⟩ Q =
 Q (.ptr 2 0) ⟨[(.map ⟨false, [(.int .i64)]⟩ (fun _ => .none) [] 0), (.map ⟨false, [(.int .i64)]⟩ (fun _ => .none) [] 0), (.cells [(.map 0), (.map 1)])], []⟩ := by kernel_rfl
set_option maxRecDepth 100000 in
theorem ev_ra0 (i a c : Int) (Q : TV → VT → Prop) : vcallF Try.prog noGl noSp (tells [(999998, .dead, none)]) 300 noLp 0 rAdF [.ptr 0 0, .agg (siC i a c)] mT0 Q =
 (bif decide (i < (0 : Int))
 then Q (.val (.int .i64 2)) ⟨[(.cells [(.val (.slice .none 0 0))]), (.cells [(.val (.int .i64 (i))), (.val (.int .u32 (a))), (.val (.int .i64 (c)))])], []⟩
 else (bif decide (i > (255 : Int))
 then Q (.val (.int .i64 2)) ⟨[(.cells [(.val (.slice .none 0 0))]), (.cells [(.val (.int .i64 (i))), (.val (.int .u32 (a))), (.val (.int .i64 (c)))])], []⟩
 else (bif eqRes BinOp.eql (keyEq (Value.int IntKind.u32 a) (Value.int IntKind.u32 (0 : Int)))
 then Q (.val (.int .i64 2)) ⟨[(.cells [(.val (.slice .none 0 0))]), (.cells [(.val (.int .i64 (i))), (.val (.int .u32 (a))), (.val (.int .i64 (c)))])], []⟩
 else (bif decide (c < (0 : Int))
 then Q (.val (.int .i64 2)) ⟨[(.cells [(.val (.slice .none 0 0))]), (.cells [(.val (.int .i64 (i))), (.val (.int .u32 (a))), (.val (.int .i64 (c)))])], []⟩
 else (bif decide (c > (1000000 : Int))
 then Q (.val (.int .i64 2)) ⟨[(.cells [(.val (.slice .none 0 0))]), (.cells [(.val (.int .i64 (i))), (.val (.int .u32 (a))), (.val (.int .i64 (c)))])], []⟩
 else (((@Eq (Option TV) (.some (.val (.slice .none 0 0))) (.some (.val (.slice .none 0 0)))) ∧
 ((@Eq (Option TV) (.some (.agg [(.val (.int .i64 (i))), (.val (.int .u32 (a))), (.val (.int .i64 (c)))])) (.some (.agg [(.val (.int .i64 (i))), (.val (.int .u32 (a))), (.val (.int .i64 (c)))]))) ∧
 ((@Eq (Option TV) (.some (.val (.slice .none 0 0))) (.some (.val (.slice .none 0 0)))) ∧
 True ))) ∧
 (((@Eq (Option TV) (.some (.val (.slice .none 0 0))) (.some (.val (.slice .none 0 0)))) ∧
 ((@Eq (Option TV) (.some (.agg [(.val (.int .i64 (i))), (.val (.int .u32 (a))), (.val (.int .i64 (c)))])) (.some (.agg [(.val (.int .i64 (i))), (.val (.int .u32 (a))), (.val (.int .i64 (c)))]))) ∧
 ((@Eq (Option TV) (.some (.val (.slice .none 0 0))) (.some (.val (.slice .none 0 0)))) ∧
 True ))) ∧
 Q (.val (.int .i64 0)) ⟨[(.cells [(.row 5 2 0 1)]), (.cells [(.val (.int .i64 (i))), (.val (.int .u32 (a))), (.val (.int .i64 (c)))]), (.row [(.val (.int .i64 (i))), (.val (.int .u32 (a))), (.val (.int .i64 (c))), (.val (.int .i64 0)), (.val (.int .i64 0))])], []⟩))))))) := by kernel_rfl
set_option maxRecDepth 100000 in
theorem ev_rr0 (i : Int) (Q : TV → VT → Prop) : vcallF Try.prog noGl noSp (tells [(999998, .dead, none)]) 300 noLp 0 rRmF [.ptr 0 0, .val (.int .i64 i)] mT0 Q =
 Q (.val (.bool false)) ⟨[(.cells [(.val (.slice .none 0 0))])], []⟩ := by kernel_rfl
set_option maxRecDepth 100000 in
theorem ev_rp0 (i c u : Int) (Q : TV → VT → Prop) : vcallF Try.prog noGl noSp (tells [(999998, .dead, none)]) 300 noLp 0 rRpF [.ptr 0 0, .val (.int .i64 i), .val (.int .i64 c), .val (.int .i64 u)] mT0 Q =
 Q (.val (.int .i64 7)) ⟨[(.cells [(.val (.slice .none 0 0))])], []⟩ := by kernel_rfl
end Go.Proofs.Ytgconkbnokbinaa
