/- ScorePicks: the law returns true, whatever comes. -/
import Derived.Test.YtdabfiichejkpaaPkRkRef
import Derived.Test.YtdabfiichejkpaaPkScAll
namespace Go.Proofs.Ytdabfiichejkpaa
open Go.RowKit

abbrev smF := 19
def smV (l : List (List TV)) (j : Nat) : List TV := [.vec 3 l .none, .vec 3 l .none, .val (.int .i64 l.length), .val (.int .i64 j), .val (.bool false)]
def smL (l : List (List TV)) (c0 : Code) : Nat → Option (LSpec × Code) := specsL [(0, loopL 26 [0, 1, 12, 13, 4] [] (smV l 0) ⟨[], []⟩ fun K => K .normal (slotsN 26 [0, 1, 12, 13, 4] (smV l l.length)) ⟨[], []⟩ [], c0)]
abbrev spF := 6
def bkW (b : Bk) : TV := .agg [.val (.int .i64 b.1), .val (.int .u32 b.2.1), .val (.int .i64 b.2.2)]
def spC (R : Prop) (f : Int × Int × Int × Int × Int) (l r : List (List TV)) (b : Bk) (ok : Bool) (z : Int) : FuncId → Option Spec := specs [(20, pureIf R [flV f, .vec 3 l .none] (.vec 3 r .none)), (21, pureIf R [flV f, .vec 3 l .none] (.vec 3 r .none)), (9, pureIf R [flV f, .vec 3 l .none] (.tup [bkW b, .val (.bool ok)])), (18, pureIf R [flV f, .vec 3 l .none] (.val (.int .i64 z))), (19, pureIf R [.vec 3 r .none, .vec 3 r .none] (.val (.bool true))), (8, trueW)]
set_option maxRecDepth 100000 in
theorem ev_sm (l : List (List TV)) (Q : TV → VT → Prop) : vcallF Try.prog (fun _ => none) (fun _ => none) noOra 300 (smL l (codeAt Try.prog smF 0)) 0 smF [.vec 3 l .none, .vec 3 l .none] ⟨[],[]⟩ Q =
 (bif eqRes BinOp.neq (keyEq (Value.int IntKind.i64 (↑(List.length l) : Int)) (Value.int IntKind.i64 (↑(List.length l) : Int)))
 then Q (.val (.bool false)) ⟨[], []⟩
 else ((codeAt Try.prog smF (0 : Nat) = codeAt Try.prog smF (0 : Nat)) ∧
 (((@Eq (Option Nat) .none .none) ∧
 ((@Eq (Nat) 0 0) ∧
 ((@Eq (List Nat) [] []) ∧
 (True  ∧
 ((@Eq (VT) ⟨[], []⟩ ⟨[], []⟩) ∧
 ((@Eq (Bool) true true) ∧
 (@Eq (List TV) [(.vec 3 (l) .none), (.vec 3 (l) .none), (.val (.int .i64 ((↑(List.length l) : Int)))), (.val (.int .i64 0)), (.val (.bool false))] [(.vec 3 (l) .none), (.vec 3 (l) .none), (.val (.int .i64 ((↑(List.length l) : Int)))), (.val (.int .i64 0)), (.val (.bool false))]))))))) ∧
 Q (.val (.bool true)) ⟨[], []⟩))) := by kernel_rfl
set_option maxRecDepth 100000 in
theorem ev_sm0 (l : List (List TV)) (j : Nat) (b : Bk) (Q : Exit → List TV → VT → List Nat → Nat → Prop) : vx Try.prog (fun _ => none) (fun _ => none) (tell [(999999, .dead), (18, .elt [.val (.int .i64 b.1), .val (.int .u32 b.2.1), .val (.int .i64 b.2.2)]), (22, .elt [.val (.int .i64 b.1), .val (.int .u32 b.2.1), .val (.int .i64 b.2.2)])]) 300 (fun _ => none) none 0 (loopAt Try.prog smF 0) (slotsN 26 [0, 1, 12, 13, 4] (smV l j)) ⟨[], []⟩ [] (pickS [0, 1, 12, 13, 4] Q) =
 (bif decide ((↑j : Int) < (↑(List.length l) : Int))
 then (OPure Try.prog (fun x => none) (.indexAddr 25 (.tmp 16) (.tmp 17)) [(16, (.vec 3 (l) .none)), (17, (.val (.int .i64 ((↑j : Int)))))] (.elt [(.val (.int .i64 (Prod.fst b))), (.val (.int .u32 (Prod.fst (Prod.snd b)))), (.val (.int .i64 (Prod.snd (Prod.snd b))))]) ∧
 (OPure Try.prog (fun x => none) (.indexAddr 25 (.tmp 20) (.tmp 21)) [(20, (.vec 3 (l) .none)), (21, (.val (.int .i64 ((↑j : Int)))))] (.elt [(.val (.int .i64 (Prod.fst b))), (.val (.int .u32 (Prod.fst (Prod.snd b)))), (.val (.int .i64 (Prod.snd (Prod.snd b))))]) ∧
 (bif eqRes BinOp.neq
  (keyEq ((fun vs => Value.agg (List.toArray vs)) ((fun x => Value.int IntKind.i64 (Prod.fst b) :: x) ((fun x => Value.int IntKind.u32 (Prod.fst (Prod.snd b)) :: x) ((fun x => Value.int IntKind.i64 (Prod.snd (Prod.snd b)) :: x) []))))
    ((fun vs => Value.agg (List.toArray vs)) ((fun x => Value.int IntKind.i64 (Prod.fst b) :: x) ((fun x => Value.int IntKind.u32 (Prod.fst (Prod.snd b)) :: x) ((fun x => Value.int IntKind.i64 (Prod.snd (Prod.snd b)) :: x) [])))))
 then Q .ret [(.vec 3 (l) .none), (.vec 3 (l) .none), (.val (.int .i64 ((↑(List.length l) : Int)))), (.val (.int .i64 ((↑j : Int)))), (.val (.bool false))] ⟨[], []⟩ [] 26
 else Q .normal [(.vec 3 (l) .none), (.vec 3 (l) .none), (.val (.int .i64 ((↑(List.length l) : Int)))), (.val (.int .i64 (IntKind.wrap IntKind.i64 ((↑j : Int) + (1 : Int))))), (.val (.bool false))] ⟨[], []⟩ [] 26)))
 else Q (.exit 0) [(.vec 3 (l) .none), (.vec 3 (l) .none), (.val (.int .i64 ((↑(List.length l) : Int)))), (.val (.int .i64 ((↑j : Int)))), (.val (.bool false))] ⟨[], []⟩ [] 26) := by kernel_rfl
set_option maxRecDepth 100000 in
theorem ev_sp (R : Prop) (f : Int × Int × Int × Int × Int) (l r : List (List TV)) (b : Bk) (ok : Bool) (z : Int) : vcallF Try.prog (fun _ => none) (spC R f l r b ok z) (tell [(999999, .dead), (31, .elt [.val (.int .i64 b.1), .val (.int .u32 b.2.1), .val (.int .i64 b.2.2)])]) 300 (fun _ => none) 0 spF [flV f, .vec 3 l .none] ⟨[],[]⟩ isTrueV =
 (bif decide ((↑(List.length l) : Int) > (40 : Int))
 then True 
 else (R  ∧
 ((@Eq (List TV) [(.agg [(.val (.int .i64 (Prod.fst f))), (.val (.int .u32 (Prod.fst (Prod.snd f)))), (.val (.int .u32 (Prod.fst (Prod.snd (Prod.snd f))))), (.val (.int .i64 (Prod.fst (Prod.snd (Prod.snd (Prod.snd f)))))), (.val (.int .i64 (Prod.snd (Prod.snd (Prod.snd (Prod.snd f))))))]), (.vec 3 (l) .none)] [(.agg [(.val (.int .i64 (Prod.fst f))), (.val (.int .u32 (Prod.fst (Prod.snd f)))), (.val (.int .u32 (Prod.fst (Prod.snd (Prod.snd f))))), (.val (.int .i64 (Prod.fst (Prod.snd (Prod.snd (Prod.snd f)))))), (.val (.int .i64 (Prod.snd (Prod.snd (Prod.snd (Prod.snd f))))))]), (.vec 3 (l) .none)]) ∧
 (R  ∧
 ((@Eq (List TV) [(.agg [(.val (.int .i64 (Prod.fst f))), (.val (.int .u32 (Prod.fst (Prod.snd f)))), (.val (.int .u32 (Prod.fst (Prod.snd (Prod.snd f))))), (.val (.int .i64 (Prod.fst (Prod.snd (Prod.snd (Prod.snd f)))))), (.val (.int .i64 (Prod.snd (Prod.snd (Prod.snd (Prod.snd f))))))]), (.vec 3 (l) .none)] [(.agg [(.val (.int .i64 (Prod.fst f))), (.val (.int .u32 (Prod.fst (Prod.snd f)))), (.val (.int .u32 (Prod.fst (Prod.snd (Prod.snd f))))), (.val (.int .i64 (Prod.fst (Prod.snd (Prod.snd (Prod.snd f)))))), (.val (.int .i64 (Prod.snd (Prod.snd (Prod.snd (Prod.snd f))))))]), (.vec 3 (l) .none)]) ∧
 (bif eqRes BinOp.neq (keyEq (Value.bool ok) (Value.bool (decide (z ≥ (0 : Int)))))
 then False 
 else (bif ok
 then (OPure Try.prog (fun x => none) (.indexAddr 25 (.tmp 29) (.tmp 30)) [(29, (.vec 3 (l) .none)), (30, (.val (.int .i64 (z))))] (.elt [(.val (.int .i64 (Prod.fst b))), (.val (.int .u32 (Prod.fst (Prod.snd b)))), (.val (.int .i64 (Prod.snd (Prod.snd b))))]) ∧
 (bif eqRes BinOp.neq
  (keyEq ((fun vs => Value.agg (List.toArray vs)) ((fun x => Value.int IntKind.i64 (Prod.fst b) :: x) ((fun x => Value.int IntKind.u32 (Prod.fst (Prod.snd b)) :: x) ((fun x => Value.int IntKind.i64 (Prod.snd (Prod.snd b)) :: x) []))))
    ((fun vs => Value.agg (List.toArray vs)) ((fun x => Value.int IntKind.i64 (Prod.fst b) :: x) ((fun x => Value.int IntKind.u32 (Prod.fst (Prod.snd b)) :: x) ((fun x => Value.int IntKind.i64 (Prod.snd (Prod.snd b)) :: x) [])))))
 then False 
 else (bif !ok
 then (bif eqRes BinOp.neq
  (keyEq ((fun vs => Value.agg (List.toArray vs)) ((fun x => Value.int IntKind.i64 (Prod.fst b) :: x) ((fun x => Value.int IntKind.u32 (Prod.fst (Prod.snd b)) :: x) ((fun x => Value.int IntKind.i64 (Prod.snd (Prod.snd b)) :: x) []))))
    ((fun vs => Value.agg (List.toArray vs)) ((fun x => Value.int IntKind.i64 (0 : Int) :: x) ((fun x => Value.int IntKind.u32 (0 : Int) :: x) ((fun x => Value.int IntKind.i64 (0 : Int) :: x) [])))))
 then False 
 else (R  ∧
 ((@Eq (List TV) [(.agg [(.val (.int .i64 (Prod.fst f))), (.val (.int .u32 (Prod.fst (Prod.snd f)))), (.val (.int .u32 (Prod.fst (Prod.snd (Prod.snd f))))), (.val (.int .i64 (Prod.fst (Prod.snd (Prod.snd (Prod.snd f)))))), (.val (.int .i64 (Prod.snd (Prod.snd (Prod.snd (Prod.snd f))))))]), (.vec 3 (l) .none)] [(.agg [(.val (.int .i64 (Prod.fst f))), (.val (.int .u32 (Prod.fst (Prod.snd f)))), (.val (.int .u32 (Prod.fst (Prod.snd (Prod.snd f))))), (.val (.int .i64 (Prod.fst (Prod.snd (Prod.snd (Prod.snd f)))))), (.val (.int .i64 (Prod.snd (Prod.snd (Prod.snd (Prod.snd f))))))]), (.vec 3 (l) .none)]) ∧
 (R  ∧
 ((@Eq (List TV) [(.agg [(.val (.int .i64 (Prod.fst f))), (.val (.int .u32 (Prod.fst (Prod.snd f)))), (.val (.int .u32 (Prod.fst (Prod.snd (Prod.snd f))))), (.val (.int .i64 (Prod.fst (Prod.snd (Prod.snd (Prod.snd f)))))), (.val (.int .i64 (Prod.snd (Prod.snd (Prod.snd (Prod.snd f))))))]), (.vec 3 (l) .none)] [(.agg [(.val (.int .i64 (Prod.fst f))), (.val (.int .u32 (Prod.fst (Prod.snd f)))), (.val (.int .u32 (Prod.fst (Prod.snd (Prod.snd f))))), (.val (.int .i64 (Prod.fst (Prod.snd (Prod.snd (Prod.snd f)))))), (.val (.int .i64 (Prod.snd (Prod.snd (Prod.snd (Prod.snd f))))))]), (.vec 3 (l) .none)]) ∧
 (R  ∧
 ((@Eq (List TV) [(.vec 3 (r) .none), (.vec 3 (r) .none)] [(.vec 3 (r) .none), (.vec 3 (r) .none)]) ∧
 True )))))))
 else (R  ∧
 ((@Eq (List TV) [(.agg [(.val (.int .i64 (Prod.fst f))), (.val (.int .u32 (Prod.fst (Prod.snd f)))), (.val (.int .u32 (Prod.fst (Prod.snd (Prod.snd f))))), (.val (.int .i64 (Prod.fst (Prod.snd (Prod.snd (Prod.snd f)))))), (.val (.int .i64 (Prod.snd (Prod.snd (Prod.snd (Prod.snd f))))))]), (.vec 3 (l) .none)] [(.agg [(.val (.int .i64 (Prod.fst f))), (.val (.int .u32 (Prod.fst (Prod.snd f)))), (.val (.int .u32 (Prod.fst (Prod.snd (Prod.snd f))))), (.val (.int .i64 (Prod.fst (Prod.snd (Prod.snd (Prod.snd f)))))), (.val (.int .i64 (Prod.snd (Prod.snd (Prod.snd (Prod.snd f))))))]), (.vec 3 (l) .none)]) ∧
 (R  ∧
 ((@Eq (List TV) [(.agg [(.val (.int .i64 (Prod.fst f))), (.val (.int .u32 (Prod.fst (Prod.snd f)))), (.val (.int .u32 (Prod.fst (Prod.snd (Prod.snd f))))), (.val (.int .i64 (Prod.fst (Prod.snd (Prod.snd (Prod.snd f)))))), (.val (.int .i64 (Prod.snd (Prod.snd (Prod.snd (Prod.snd f))))))]), (.vec 3 (l) .none)] [(.agg [(.val (.int .i64 (Prod.fst f))), (.val (.int .u32 (Prod.fst (Prod.snd f)))), (.val (.int .u32 (Prod.fst (Prod.snd (Prod.snd f))))), (.val (.int .i64 (Prod.fst (Prod.snd (Prod.snd (Prod.snd f)))))), (.val (.int .i64 (Prod.snd (Prod.snd (Prod.snd (Prod.snd f))))))]), (.vec 3 (l) .none)]) ∧
 (R  ∧
 ((@Eq (List TV) [(.vec 3 (r) .none), (.vec 3 (r) .none)] [(.vec 3 (r) .none), (.vec 3 (r) .none)]) ∧
 True )))))))))
 else (bif !ok
 then (bif eqRes BinOp.neq
  (keyEq ((fun vs => Value.agg (List.toArray vs)) ((fun x => Value.int IntKind.i64 (Prod.fst b) :: x) ((fun x => Value.int IntKind.u32 (Prod.fst (Prod.snd b)) :: x) ((fun x => Value.int IntKind.i64 (Prod.snd (Prod.snd b)) :: x) []))))
    ((fun vs => Value.agg (List.toArray vs)) ((fun x => Value.int IntKind.i64 (0 : Int) :: x) ((fun x => Value.int IntKind.u32 (0 : Int) :: x) ((fun x => Value.int IntKind.i64 (0 : Int) :: x) [])))))
 then False 
 else (R  ∧
 ((@Eq (List TV) [(.agg [(.val (.int .i64 (Prod.fst f))), (.val (.int .u32 (Prod.fst (Prod.snd f)))), (.val (.int .u32 (Prod.fst (Prod.snd (Prod.snd f))))), (.val (.int .i64 (Prod.fst (Prod.snd (Prod.snd (Prod.snd f)))))), (.val (.int .i64 (Prod.snd (Prod.snd (Prod.snd (Prod.snd f))))))]), (.vec 3 (l) .none)] [(.agg [(.val (.int .i64 (Prod.fst f))), (.val (.int .u32 (Prod.fst (Prod.snd f)))), (.val (.int .u32 (Prod.fst (Prod.snd (Prod.snd f))))), (.val (.int .i64 (Prod.fst (Prod.snd (Prod.snd (Prod.snd f)))))), (.val (.int .i64 (Prod.snd (Prod.snd (Prod.snd (Prod.snd f))))))]), (.vec 3 (l) .none)]) ∧
 (R  ∧
 ((@Eq (List TV) [(.agg [(.val (.int .i64 (Prod.fst f))), (.val (.int .u32 (Prod.fst (Prod.snd f)))), (.val (.int .u32 (Prod.fst (Prod.snd (Prod.snd f))))), (.val (.int .i64 (Prod.fst (Prod.snd (Prod.snd (Prod.snd f)))))), (.val (.int .i64 (Prod.snd (Prod.snd (Prod.snd (Prod.snd f))))))]), (.vec 3 (l) .none)] [(.agg [(.val (.int .i64 (Prod.fst f))), (.val (.int .u32 (Prod.fst (Prod.snd f)))), (.val (.int .u32 (Prod.fst (Prod.snd (Prod.snd f))))), (.val (.int .i64 (Prod.fst (Prod.snd (Prod.snd (Prod.snd f)))))), (.val (.int .i64 (Prod.snd (Prod.snd (Prod.snd (Prod.snd f))))))]), (.vec 3 (l) .none)]) ∧
 (R  ∧
 ((@Eq (List TV) [(.vec 3 (r) .none), (.vec 3 (r) .none)] [(.vec 3 (r) .none), (.vec 3 (r) .none)]) ∧
 True )))))))
 else (R  ∧
 ((@Eq (List TV) [(.agg [(.val (.int .i64 (Prod.fst f))), (.val (.int .u32 (Prod.fst (Prod.snd f)))), (.val (.int .u32 (Prod.fst (Prod.snd (Prod.snd f))))), (.val (.int .i64 (Prod.fst (Prod.snd (Prod.snd (Prod.snd f)))))), (.val (.int .i64 (Prod.snd (Prod.snd (Prod.snd (Prod.snd f))))))]), (.vec 3 (l) .none)] [(.agg [(.val (.int .i64 (Prod.fst f))), (.val (.int .u32 (Prod.fst (Prod.snd f)))), (.val (.int .u32 (Prod.fst (Prod.snd (Prod.snd f))))), (.val (.int .i64 (Prod.fst (Prod.snd (Prod.snd (Prod.snd f)))))), (.val (.int .i64 (Prod.snd (Prod.snd (Prod.snd (Prod.snd f))))))]), (.vec 3 (l) .none)]) ∧
 (R  ∧
 ((@Eq (List TV) [(.agg [(.val (.int .i64 (Prod.fst f))), (.val (.int .u32 (Prod.fst (Prod.snd f)))), (.val (.int .u32 (Prod.fst (Prod.snd (Prod.snd f))))), (.val (.int .i64 (Prod.fst (Prod.snd (Prod.snd (Prod.snd f)))))), (.val (.int .i64 (Prod.snd (Prod.snd (Prod.snd (Prod.snd f))))))]), (.vec 3 (l) .none)] [(.agg [(.val (.int .i64 (Prod.fst f))), (.val (.int .u32 (Prod.fst (Prod.snd f)))), (.val (.int .u32 (Prod.fst (Prod.snd (Prod.snd f))))), (.val (.int .i64 (Prod.fst (Prod.snd (Prod.snd (Prod.snd f)))))), (.val (.int .i64 (Prod.snd (Prod.snd (Prod.snd (Prod.snd f))))))]), (.vec 3 (l) .none)]) ∧
 (R  ∧
 ((@Eq (List TV) [(.vec 3 (r) .none), (.vec 3 (r) .none)] [(.vec 3 (r) .none), (.vec 3 (r) .none)]) ∧
 True )))))))))))))) := by kernel_rfl

theorem same_ref (l : List Bk) (hl : l.length ≤ 1000) : VCx Try.prog (fun _ => none) 0 smF [.vec 3 (l.map backE) .none, .vec 3 (l.map backE) .none] ⟨[], []⟩ fun x T' => x = .val (.bool true) ∧ T' = ⟨[], []⟩ := by
  have hL : LsOk Try.prog (fun _ => none) (smL (l.map backE) (codeAt Try.prog smF 0)) := specsL_ok fun p hp => by
    obtain rfl := List.mem_singleton.1 hp
    refine loopL_ok fun K hK => ?_
    let sl : Nat → List TV := fun j => smV (l.map backE) j
    let Post : Exit → List TV → VT → Prop := fun e vs T => e = .normal ∧ vs = sl l.length ∧ T = ⟨[], []⟩
    refine loopK (f := smF) (id := 0) (by kernel_rfl) 26 [0, 1, 12, 13, 4] (fun j => l.length - j) sl (fun _ => ⟨[], []⟩) (fun j => j ≤ l.length) 0 0 (fun _ _ => ⟨Nat.le_refl _, Nat.le_refl _⟩)
      Post (fun j hj => ?_) 0 (Nat.zero_le _) K (fun e vs T ⟨h1, h2, h3⟩ => ?_)
    · obtain ⟨b, hb⟩ : ∃ b, j < l.length → l[j]? = some b := by
        by_cases h : j < l.length
        · exact ⟨_, fun _ => List.getElem?_eq_getElem h⟩
        · exact ⟨(0, 0, 0), fun h' => absurd h' h⟩
      refine vx_is mixedQ_Try bodiesQ_Try specsOk_none lsOk_none (ev_sm0 (l.map backE) j b _) ?_
      by_cases hlt : j < l.length
      · have hb := hb hlt
        have hw := wrapN j (by omega)
        refine condT (by simpa using hlt) ⟨opure_bk2 rfl rfl (Int.natCast_nonneg _) (by simpa using hb), opure_bk2 rfl rfl (Int.natCast_nonneg _) (by simpa using hb), condF (by simp [eqRes, keyEq, eqAll, cellEq]) ⟨rfl, rfl, j + 1, hlt, by simp only; omega, .inr ⟨rfl, ?_⟩⟩⟩
        simp only [sl, smV, renL, TV.ren, ren_backE, Tok.ren, hw]
      · obtain rfl : j = l.length := by omega
        exact condF (by simp) ⟨rfl, rfl, rfl, rfl, rfl⟩
    · subst h1 h2 h3
      simpa [sl] using hK
  refine VCx.keepQ 0 0 (Nat.le_refl _) (Nat.le_refl _) (vcallF_is mixedQ_Try bodiesQ_Try specsOk_none hL (ev_sm (l.map backE) _) ?_)
  exact condF (by simp [eqRes, keyEq, cellEq]) ⟨rfl, ⟨rfl, rfl, rfl, trivial, rfl, rfl, rfl⟩, rfl, rfl⟩
theorem law_picks (f : Int × Int × Int × Int × Int) (l : List Bk) : VCx Try.prog (fun _ => none) 0 spF [flV f, .vec 3 (l.map backE) .none] ⟨[], []⟩ isTrueV := by
  let key := flowK f.1 f.2.1 f.2.2.1 f.2.2.2.1 f.2.2.2.2
  let ss := sortS (seatsL key 0 l)
  let r := rankL key l
  have hren : renL (nameIn []) (nameIn []) [flV f, .vec 3 (l.map backE) .none] = [flV f, .vec 3 (l.map backE) .none] := by simp only [flV, flowE, renL, TV.ren, ren_backE, Tok.ren]
  have hrenr : ∀ (g h : Nat → Option Nat), TV.ren g h (.vec 3 (r.map backE) .none) = .vec 3 (r.map backE) .none := fun _ _ => by simp only [TV.ren, ren_backE, Tok.ren]
  have hse : l.length ≤ 40 → _ := fun h => vseats f.1 f.2.1 f.2.2.1 f.2.2.2.1 f.2.2.2.2 l (by omega)
  have hrl := rankL_len key l
  have hrank : l.length ≤ 40 → VCx Try.prog (fun _ => none) 0 20 [flV f, .vec 3 (l.map backE) .none] ⟨[], []⟩ fun x T' => x = .vec 3 (r.map backE) .none ∧ T' = ⟨[], []⟩ := fun h =>
    VCx.ofCalls hren (vrank ss _ _ _ _ _ l (by omega) (hse h) (by rw [sortS_len]; exact seatsL_len key l 0) (rank_bound key l)) hrenr
  have main : ∀ (b : Bk) (ok : Bool), (l.length ≤ 40 → VCx Try.prog (fun _ => none) 0 9 [flV f, .vec 3 (l.map backE) .none] ⟨[], []⟩ fun x T' => x = .tup [bkW b, .val (.bool ok)] ∧ T' = ⟨[], []⟩) →
      ok = decide ((rfold key l l.length).1 ≥ 0) → (ok = true → l[(rfold key l l.length).1.toNat]? = some b) → (ok = false → b = (0, 0, 0)) → VCx Try.prog (fun _ => none) 0 spF [flV f, .vec 3 (l.map backE) .none] ⟨[], []⟩ isTrueV := by
    intro b ok hpick hok hb1 hb0
    have hC : SpecsOk Try.prog (fun _ => none) (spC (l.length ≤ 40) f (l.map backE) (r.map backE) b ok (rfold key l l.length).1) := specs_ok fun p hp => by
      simp only [List.mem_cons, List.not_mem_nil, or_false] at hp
      rcases hp with rfl | rfl | rfl | rfl | rfl | rfl
      · exact pureIf_ok gvals_none hren hrenr hrank
      · exact pureIf_ok gvals_none hren hrenr fun h => rank_ref f l (by omega)
      · exact pureIf_ok gvals_none hren (fun _ _ => rfl) hpick
      · exact pureIf_ok gvals_none hren (fun _ _ => rfl) fun h => pick_ref f l (by omega)
      · exact pureIf_ok gvals_none (by simp only [renL, TV.ren, ren_backE, Tok.ren]) (fun _ _ => rfl) fun h => same_ref r (by have : r.length ≤ l.length := hrl; omega)
      · refine trueW_ok gvals_none ((VCx.ofCalls rfl vlives fun _ _ => rfl).mono fun x T' h => ?_)
        rw [h.1]; exact trivial
    refine vcallF_is mixedQ_Try bodiesQ_Try hC lsOk_none (ev_sp (l.length ≤ 40) f (l.map backE) (r.map backE) b ok (rfold key l l.length).1) ?_
    refine cond_of (fun _ => trivial) fun hle => ?_
    have hR : l.length ≤ 40 := by have := hle; simp at this; omega
    refine ⟨hR, rfl, hR, rfl, condF (by simp [eqRes, keyEq, cellEq, hok]) ?_⟩
    cases ok with
    | true =>
      have hz : (rfold key l l.length).1 ≥ 0 := by simpa using hok.symm
      exact ⟨opure_bk2 rfl rfl hz (hb1 rfl), condF (by simp [eqRes, keyEq, eqAll, cellEq]) ⟨hR, rfl, hR, rfl, hR, rfl, trivial⟩⟩
    | false =>
      have := hb0 rfl
      subst this
      exact condF (by simp [eqRes, keyEq, eqAll, cellEq]) ⟨hR, rfl, hR, rfl, hR, rfl, trivial⟩
  rcases pick_law key l with ⟨e, hz⟩ | ⟨h, t, e, hz, h0, hlt⟩
  · exact main (0, 0, 0) false (fun hR => VCx.ofCalls hren (vpick_none ss _ _ _ _ _ l (hse hR) e) fun _ _ => rfl) (by rw [hz]; rfl) (fun h => by cases h) fun _ => rfl
  · obtain ⟨b, hb⟩ : ∃ b, l[h.1.toNat]? = some b := ⟨_, List.getElem?_eq_getElem hlt⟩
    exact main b true (fun hR => VCx.ofCalls hren (vpick_some ss _ _ _ _ _ l (hse hR) h.1.toNat h.2 t (by rw [show ss = h :: t from e]; congr 1; rw [Int.toNat_of_nonneg h0]) b hb) fun _ _ => rfl) (by rw [hz]; simp [h0]) (fun _ => by rw [hz]; exact hb) (fun h => by cases h)
end Go.Proofs.Ytdabfiichejkpaa
