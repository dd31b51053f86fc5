/- The reference's Pick: where its fold stands. -/
import Derived.Test.YtdabfiichejkpaaMw4
import Derived.Test.YtdabfiichejkpaaMwRFold
namespace Go.Proofs.Ytdabfiichejkpaa
open Go.RowKit

theorem mixedQ_Try : Try.prog.follows .mixedOrders = true := by kernel_rfl
theorem bodiesQ_Try : bodiesOk Try.prog = true := by kernel_rfl
abbrev pkF := 18
def flO (f : Int × Int × Int × Int × Int) : VO := .cells [.val (.int .i64 f.1), .val (.int .u32 f.2.1), .val (.int .u32 f.2.2.1), .val (.int .i64 f.2.2.2.1), .val (.int .i64 f.2.2.2.2)]
def flV (f : Int × Int × Int × Int × Int) : TV := flowE f.1 f.2.1 f.2.2.1 f.2.2.2.1 f.2.2.2.2
def scoreF (sc : Int → Int → Int → Int) : List TV → Option TV
  | [.val (.int .u64 k), .val (.int .i64 i), .val (.int .i64 w)] => some (.val (.int .u64 (sc k i w)))
  | _ => none
def pkC (f : Int × Int × Int × Int × Int) (key : Int) (sc : Int → Int → Int → Int) : FuncId → Option Spec := specs [(13, pureAt [flV f] (.val (.int .u64 key))), (17, fnW (scoreF sc))]
def pkV (l : List (List TV)) (best most : Int) (j : Nat) : List TV := [.vec 3 l .none, .ptr 0 0, .vec 3 l .none, .val (.int .i64 l.length), .val (.int .i64 best), .val (.int .u64 most), .val (.int .i64 j)]
def pkT (f : Int × Int × Int × Int × Int) : VT := ⟨[flO f], []⟩
def pkL (f : Int × Int × Int × Int × Int) (l : List (List TV)) (best most : Int) (c0 : Code) : Nat → Option (LSpec × Code) := specsL [(0, loopL 53 [1, 2, 10, 11, 5, 6, 12] [] (pkV l (-1) 0 0) (pkT f) fun K => K .normal (slotsN 53 [1, 2, 10, 11, 5, 6, 12] (pkV l best most l.length)) (pkT f) [], c0)]
set_option maxRecDepth 100000 in
theorem ev_pk (f : Int × Int × Int × Int × Int) (l : List (List TV)) (best most key : Int) (sc : Int → Int → Int → Int) (Q : TV → VT → Prop) : vcallF Try.prog (fun _ => none) (pkC f key sc) noOra 300 (pkL f l best most (codeAt Try.prog pkF 0)) 0 pkF [flV f, .vec 3 l .none] ⟨[],[]⟩ Q =
 ((codeAt Try.prog pkF (0 : Nat) = codeAt Try.prog pkF (0 : Nat)) ∧
 (((@Eq (Option Nat) .none .none) ∧
 ((@Eq (Nat) 0 0) ∧
 ((@Eq (List Nat) [] []) ∧
 (True  ∧
 ((@Eq (VT) ⟨[(.cells [(.val (.int .i64 (Prod.fst f))), (.val (.int .u32 (Prod.fst (Prod.snd f)))), (.val (.int .u32 (Prod.fst (Prod.snd (Prod.snd f))))), (.val (.int .i64 (Prod.fst (Prod.snd (Prod.snd (Prod.snd f)))))), (.val (.int .i64 (Prod.snd (Prod.snd (Prod.snd (Prod.snd f))))))])], []⟩ ⟨[(.cells [(.val (.int .i64 (Prod.fst f))), (.val (.int .u32 (Prod.fst (Prod.snd f)))), (.val (.int .u32 (Prod.fst (Prod.snd (Prod.snd f))))), (.val (.int .i64 (Prod.fst (Prod.snd (Prod.snd (Prod.snd f)))))), (.val (.int .i64 (Prod.snd (Prod.snd (Prod.snd (Prod.snd f))))))])], []⟩) ∧
 ((@Eq (Bool) true true) ∧
 (@Eq (List TV) [(.vec 3 (l) .none), (.ptr 0 0), (.vec 3 (l) .none), (.val (.int .i64 ((↑(List.length l) : Int)))), (.val (.int .i64 (-1))), (.val (.int .u64 0)), (.val (.int .i64 0))] [(.vec 3 (l) .none), (.ptr 0 0), (.vec 3 (l) .none), (.val (.int .i64 ((↑(List.length l) : Int)))), (.val (.int .i64 (-1))), (.val (.int .u64 0)), (.val (.int .i64 0))]))))))) ∧
 Q (.val (.int .i64 (best))) ⟨[(.cells [(.val (.int .i64 (Prod.fst f))), (.val (.int .u32 (Prod.fst (Prod.snd f)))), (.val (.int .u32 (Prod.fst (Prod.snd (Prod.snd f))))), (.val (.int .i64 (Prod.fst (Prod.snd (Prod.snd (Prod.snd f)))))), (.val (.int .i64 (Prod.snd (Prod.snd (Prod.snd (Prod.snd f))))))])], []⟩)) := by kernel_rfl
set_option maxRecDepth 100000 in
theorem ev_pk0 (f : Int × Int × Int × Int × Int) (l : List (List TV)) (best most key : Int) (sc : Int → Int → Int → Int) (j : Nat) (b a : Bk) (Q : Exit → List TV → VT → List Nat → Nat → Prop) : vx Try.prog (fun _ => none) (pkC f key sc) (tell [(999999, .dead), (15, .elt [.val (.int .i64 b.1), .val (.int .u32 b.2.1), .val (.int .i64 b.2.2)]), (43, .elt [.val (.int .i64 a.1), .val (.int .u32 a.2.1), .val (.int .i64 a.2.2)])]) 300 (fun _ => none) none 0 (loopAt Try.prog pkF 0) (slotsN 53 [1, 2, 10, 11, 5, 6, 12] (pkV l best most j)) (pkT f) [] (pickS [1, 2, 10, 11, 5, 6, 12] Q) =
 (bif decide ((↑j : Int) < (↑(List.length l) : Int))
 then (OPure Try.prog (fun x => none) (.indexAddr 25 (.tmp 10) (.tmp 12)) [(10, (.vec 3 (l) .none)), (12, (.val (.int .i64 ((↑j : Int)))))] (.elt [(.val (.int .i64 (Prod.fst b))), (.val (.int .u32 (Prod.fst (Prod.snd b)))), (.val (.int .i64 (Prod.snd (Prod.snd b))))]) ∧
 (bif decide (Prod.snd (Prod.snd b) < (1 : Int))
 then Q .normal [(.vec 3 (l) .none), (.ptr 0 0), (.vec 3 (l) .none), (.val (.int .i64 ((↑(List.length l) : Int)))), (.val (.int .i64 (best))), (.val (.int .u64 (most))), (.val (.int .i64 (IntKind.wrap IntKind.i64 ((↑j : Int) + (1 : Int)))))] ⟨[(.cells [(.val (.int .i64 (Prod.fst f))), (.val (.int .u32 (Prod.fst (Prod.snd f)))), (.val (.int .u32 (Prod.fst (Prod.snd (Prod.snd f))))), (.val (.int .i64 (Prod.fst (Prod.snd (Prod.snd (Prod.snd f)))))), (.val (.int .i64 (Prod.snd (Prod.snd (Prod.snd (Prod.snd f))))))]), (.cells [(.val (.int .i64 (Prod.fst b))), (.val (.int .u32 (Prod.fst (Prod.snd b)))), (.val (.int .i64 (Prod.snd (Prod.snd b))))])], []⟩ [] 53
 else ((@Eq (List TV) [(.agg [(.val (.int .i64 (Prod.fst f))), (.val (.int .u32 (Prod.fst (Prod.snd f)))), (.val (.int .u32 (Prod.fst (Prod.snd (Prod.snd f))))), (.val (.int .i64 (Prod.fst (Prod.snd (Prod.snd (Prod.snd f)))))), (.val (.int .i64 (Prod.snd (Prod.snd (Prod.snd (Prod.snd f))))))])] [(.agg [(.val (.int .i64 (Prod.fst f))), (.val (.int .u32 (Prod.fst (Prod.snd f)))), (.val (.int .u32 (Prod.fst (Prod.snd (Prod.snd f))))), (.val (.int .i64 (Prod.fst (Prod.snd (Prod.snd (Prod.snd f)))))), (.val (.int .i64 (Prod.snd (Prod.snd (Prod.snd (Prod.snd f))))))])]) ∧
 (bif decide (best < (0 : Int))
 then Q .normal [(.vec 3 (l) .none), (.ptr 0 0), (.vec 3 (l) .none), (.val (.int .i64 ((↑(List.length l) : Int)))), (.val (.int .i64 ((↑j : Int)))), (.val (.int .u64 (sc key (Prod.fst b) (Prod.snd (Prod.snd b))))), (.val (.int .i64 (IntKind.wrap IntKind.i64 ((↑j : Int) + (1 : Int)))))] ⟨[(.cells [(.val (.int .i64 (Prod.fst f))), (.val (.int .u32 (Prod.fst (Prod.snd f)))), (.val (.int .u32 (Prod.fst (Prod.snd (Prod.snd f))))), (.val (.int .i64 (Prod.fst (Prod.snd (Prod.snd (Prod.snd f)))))), (.val (.int .i64 (Prod.snd (Prod.snd (Prod.snd (Prod.snd f))))))]), (.cells [(.val (.int .i64 (Prod.fst b))), (.val (.int .u32 (Prod.fst (Prod.snd b)))), (.val (.int .i64 (Prod.snd (Prod.snd b))))])], []⟩ [] 53
 else (bif decide (sc key (Prod.fst b) (Prod.snd (Prod.snd b)) > most)
 then Q .normal [(.vec 3 (l) .none), (.ptr 0 0), (.vec 3 (l) .none), (.val (.int .i64 ((↑(List.length l) : Int)))), (.val (.int .i64 ((↑j : Int)))), (.val (.int .u64 (sc key (Prod.fst b) (Prod.snd (Prod.snd b))))), (.val (.int .i64 (IntKind.wrap IntKind.i64 ((↑j : Int) + (1 : Int)))))] ⟨[(.cells [(.val (.int .i64 (Prod.fst f))), (.val (.int .u32 (Prod.fst (Prod.snd f)))), (.val (.int .u32 (Prod.fst (Prod.snd (Prod.snd f))))), (.val (.int .i64 (Prod.fst (Prod.snd (Prod.snd (Prod.snd f)))))), (.val (.int .i64 (Prod.snd (Prod.snd (Prod.snd (Prod.snd f))))))]), (.cells [(.val (.int .i64 (Prod.fst b))), (.val (.int .u32 (Prod.fst (Prod.snd b)))), (.val (.int .i64 (Prod.snd (Prod.snd b))))])], []⟩ [] 53
 else (bif eqRes BinOp.eql (keyEq (Value.int IntKind.u64 (sc key (Prod.fst b) (Prod.snd (Prod.snd b)))) (Value.int IntKind.u64 most))
 then (OPure Try.prog (fun x => none) (.indexAddr 25 (.tmp 41) (.tmp 42)) [(41, (.vec 3 (l) .none)), (42, (.val (.int .i64 (best))))] (.elt [(.val (.int .i64 (Prod.fst a))), (.val (.int .u32 (Prod.fst (Prod.snd a)))), (.val (.int .i64 (Prod.snd (Prod.snd a))))]) ∧
 (bif decide (Prod.fst b < Prod.fst a)
 then Q .normal [(.vec 3 (l) .none), (.ptr 0 0), (.vec 3 (l) .none), (.val (.int .i64 ((↑(List.length l) : Int)))), (.val (.int .i64 ((↑j : Int)))), (.val (.int .u64 (sc key (Prod.fst b) (Prod.snd (Prod.snd b))))), (.val (.int .i64 (IntKind.wrap IntKind.i64 ((↑j : Int) + (1 : Int)))))] ⟨[(.cells [(.val (.int .i64 (Prod.fst f))), (.val (.int .u32 (Prod.fst (Prod.snd f)))), (.val (.int .u32 (Prod.fst (Prod.snd (Prod.snd f))))), (.val (.int .i64 (Prod.fst (Prod.snd (Prod.snd (Prod.snd f)))))), (.val (.int .i64 (Prod.snd (Prod.snd (Prod.snd (Prod.snd f))))))]), (.cells [(.val (.int .i64 (Prod.fst b))), (.val (.int .u32 (Prod.fst (Prod.snd b)))), (.val (.int .i64 (Prod.snd (Prod.snd b))))])], []⟩ [] 53
 else Q .normal [(.vec 3 (l) .none), (.ptr 0 0), (.vec 3 (l) .none), (.val (.int .i64 ((↑(List.length l) : Int)))), (.val (.int .i64 (best))), (.val (.int .u64 (most))), (.val (.int .i64 (IntKind.wrap IntKind.i64 ((↑j : Int) + (1 : Int)))))] ⟨[(.cells [(.val (.int .i64 (Prod.fst f))), (.val (.int .u32 (Prod.fst (Prod.snd f)))), (.val (.int .u32 (Prod.fst (Prod.snd (Prod.snd f))))), (.val (.int .i64 (Prod.fst (Prod.snd (Prod.snd (Prod.snd f)))))), (.val (.int .i64 (Prod.snd (Prod.snd (Prod.snd (Prod.snd f))))))]), (.cells [(.val (.int .i64 (Prod.fst b))), (.val (.int .u32 (Prod.fst (Prod.snd b)))), (.val (.int .i64 (Prod.snd (Prod.snd b))))])], []⟩ [] 53))
 else Q .normal [(.vec 3 (l) .none), (.ptr 0 0), (.vec 3 (l) .none), (.val (.int .i64 ((↑(List.length l) : Int)))), (.val (.int .i64 (best))), (.val (.int .u64 (most))), (.val (.int .i64 (IntKind.wrap IntKind.i64 ((↑j : Int) + (1 : Int)))))] ⟨[(.cells [(.val (.int .i64 (Prod.fst f))), (.val (.int .u32 (Prod.fst (Prod.snd f)))), (.val (.int .u32 (Prod.fst (Prod.snd (Prod.snd f))))), (.val (.int .i64 (Prod.fst (Prod.snd (Prod.snd (Prod.snd f)))))), (.val (.int .i64 (Prod.snd (Prod.snd (Prod.snd (Prod.snd f))))))]), (.cells [(.val (.int .i64 (Prod.fst b))), (.val (.int .u32 (Prod.fst (Prod.snd b)))), (.val (.int .i64 (Prod.snd (Prod.snd b))))])], []⟩ [] 53))))))
 else Q (.exit 0) [(.vec 3 (l) .none), (.ptr 0 0), (.vec 3 (l) .none), (.val (.int .i64 ((↑(List.length l) : Int)))), (.val (.int .i64 (best))), (.val (.int .u64 (most))), (.val (.int .i64 ((↑j : Int))))] ⟨[(.cells [(.val (.int .i64 (Prod.fst f))), (.val (.int .u32 (Prod.fst (Prod.snd f)))), (.val (.int .u32 (Prod.fst (Prod.snd (Prod.snd f))))), (.val (.int .i64 (Prod.fst (Prod.snd (Prod.snd (Prod.snd f)))))), (.val (.int .i64 (Prod.snd (Prod.snd (Prod.snd (Prod.snd f))))))])], []⟩ [] 53) := by kernel_rfl

theorem opure_bk2 {x i : Operand} {l : List (Nat × TV)} {L : List Bk} {tok : Tok} {k : IntKind} {z : Int} {b : Bk} (hx : evOf (fun _ => none) l x = .vec 3 (L.map backE) tok) (hz : evOf (fun _ => none) l i = .val (.int k z)) (h0 : 0 ≤ z) (he : L[z.toNat]? = some b) :
    OPure Try.prog (fun _ => none) (.indexAddr 25 x i) l (.elt (backE b)) :=
  opure_index (inf := (Try.prog.info? 29).getD default) Try.underlying25 (by kernel_rfl) hx hz h0 (by rw [List.getElem?_map, he]; rfl)
theorem pkC_ok (f : Int × Int × Int × Int × Int) : SpecsOk Try.prog (fun _ => none) (pkC f (flowK f.1 f.2.1 f.2.2.1 f.2.2.2.1 f.2.2.2.2) scoreZ) := specs_ok fun p hp => by
  simp only [List.mem_cons, List.not_mem_nil, or_false] at hp
  rcases hp with rfl | rfl
  · exact pureAt_ok gvals_none rfl (fun _ _ => rfl) (VCx.ofCalls rfl (vrkeyP _ _ _ _ _) fun _ _ => rfl)
  · refine fnW_ok gvals_none fun ys y hy => ?_
    unfold scoreF at hy
    split at hy
    · injection hy with hy; subst hy
      exact ⟨rfl, fun _ _ => rfl, VCx.ofCalls rfl (vrscoreP _ _ _) fun _ _ => rfl⟩
    · cases hy
theorem pick_ref (f : Int × Int × Int × Int × Int) (l : List Bk) (hl : l.length ≤ 1000) : VCx Try.prog (fun _ => none) 0 pkF [flV f, .vec 3 (l.map backE) .none] ⟨[], []⟩ fun x T' => x = .val (.int .i64 (rfold (flowK f.1 f.2.1 f.2.2.1 f.2.2.2.1 f.2.2.2.2) l l.length).1) ∧ T' = ⟨[], []⟩ := by
  generalize hkey : flowK f.1 f.2.1 f.2.2.1 f.2.2.2.1 f.2.2.2.2 = key
  have hC := pkC_ok f
  rw [hkey] at hC
  have hL : LsOk Try.prog (fun _ => none) (pkL f (l.map backE) (rfold key l l.length).1 (rfold key l l.length).2 (codeAt Try.prog pkF 0)) := specsL_ok fun p hp => by
    obtain rfl := List.mem_singleton.1 hp
    refine loopL_ok fun K hK => ?_
    let sl : Nat → List TV := fun j => pkV (l.map backE) (rfold key l j).1 (rfold key l j).2 j
    let Post : Exit → List TV → VT → Prop := fun e vs T => e = .normal ∧ vs = sl l.length ∧ T = pkT f
    refine loopK (f := pkF) (id := 0) (by kernel_rfl) 53 [1, 2, 10, 11, 5, 6, 12] (fun j => l.length - j) sl (fun _ => pkT f) (fun j => j ≤ l.length) 1 0 (fun _ _ => ⟨Nat.le_refl _, Nat.le_refl _⟩)
      Post (fun j hj => ?_) 0 (Nat.zero_le _) K (fun e vs T ⟨h1, h2, h3⟩ => ?_)
    · have hlt0 := rfold_lt key l j
      obtain ⟨b, hb⟩ : ∃ b, j < l.length → l[j]? = some b := by
        by_cases h : j < l.length
        · exact ⟨_, fun _ => List.getElem?_eq_getElem h⟩
        · exact ⟨(0, 0, 0), fun h' => absurd h' h⟩
      obtain ⟨a, ha⟩ : ∃ a, 0 ≤ (rfold key l j).1 → l[(rfold key l j).1.toNat]? = some a := by
        by_cases h : 0 ≤ (rfold key l j).1
        · exact ⟨_, fun _ => List.getElem?_eq_getElem (show (rfold key l j).1.toNat < l.length by omega)⟩
        · exact ⟨(0, 0, 0), fun h' => absurd h' h⟩
      have hev := ev_pk0 f (l.map backE) (rfold key l j).1 (rfold key l j).2 key scoreZ j b a (loopQ 53 0 (fun j => l.length - j) sl (fun _ => pkT f) (fun j => j ≤ l.length) 1 0 j Post)
      refine vx_is mixedQ_Try bodiesQ_Try hC lsOk_none hev ?_
      by_cases hlt : j < l.length
      · have hb := hb hlt
        have hw := wrapN j (by omega)
        have hbj : l[j]! = b := by rw [getElem!_def, hb]
        have hstep : rfold key l (j + 1) = rstep key l (rfold key l j) j b := by rw [← hbj]; rfl
        have fin : ∀ (x y : Int), rfold key l (j + 1) = (x, y) → loopQ 53 0 (fun j => l.length - j) sl (fun _ => pkT f) (fun j => j ≤ l.length) 1 0 j Post .normal [.vec 3 (l.map backE) .none, .ptr 0 0, .vec 3 (l.map backE) .none, .val (.int .i64 (l.map backE).length), .val (.int .i64 x), .val (.int .u64 y), .val (.int .i64 (IntKind.i64.wrap ((j : Int) + 1)))] ⟨[flO f, .cells [.val (.int .i64 b.1), .val (.int .u32 b.2.1), .val (.int .i64 b.2.2)]], []⟩ [] 53 := fun x y h => by
          refine ⟨rfl, rfl, j + 1, hlt, by simp only; omega, .inr ⟨rfl, ?_⟩⟩
          simp only [sl, pkV, renL, TV.ren, ren_backE, Tok.ren, hw, h]
          rfl
        generalize rfold key l j = st at *
        obtain ⟨best, most⟩ := st
        simp only [rstep] at hstep hlt0 ha
        refine condT (by simpa using hlt) ⟨opure_bk2 rfl rfl (Int.natCast_nonneg _) (by simpa using hb), cond_of (fun hwt => ?_) (fun hwt => ⟨rfl, cond_of (fun hneg => ?_) (fun hneg => cond_of (fun hgt => ?_) (fun hgt => cond_of (fun heq => ?_) (fun heq => ?_)))⟩)⟩
        · have hwt : b.2.2 < 1 := by simpa using hwt
          rw [if_pos hwt] at hstep
          exact fin _ _ hstep
        · have hwt : ¬ b.2.2 < 1 := by simpa using hwt
          rw [if_neg hwt, if_pos (by simpa using hneg)] at hstep
          exact fin _ _ hstep
        · have hwt : ¬ b.2.2 < 1 := by simpa using hwt
          rw [if_neg hwt, if_neg (by simpa using hneg), if_pos (by simpa using hgt)] at hstep
          exact fin _ _ hstep
        · have hwt : ¬ b.2.2 < 1 := by simpa using hwt
          have hneg : ¬ best < 0 := by simpa using hneg
          have ha := ha (by omega)
          have ha2 : l[best.toNat]! = a := by rw [getElem!_def, ha]
          have heq : scoreZ key b.1 b.2.2 = most := by simpa [eqRes, keyEq, cellEq] using heq
          rw [if_neg hwt, if_neg hneg, if_neg (by simpa using hgt), ha2] at hstep
          refine ⟨opure_bk2 rfl rfl (by omega) ha, cond_of (fun hid => ?_) (fun hid => ?_)⟩
          · rw [if_pos ⟨heq, by simpa using hid⟩] at hstep
            exact fin _ _ hstep
          · rw [if_neg (fun h => by have := h.2; have h2 : ¬ b.1 < a.1 := by simpa using hid
                                    exact h2 this)] at hstep
            exact fin _ _ hstep
        · have hwt : ¬ b.2.2 < 1 := by simpa using hwt
          have heq : ¬ scoreZ key b.1 b.2.2 = most := by simpa [eqRes, keyEq, cellEq] using heq
          rw [if_neg hwt, if_neg (by simpa using hneg), if_neg (by simpa using hgt), if_neg (fun h => heq h.1)] at hstep
          exact fin _ _ hstep
      · obtain rfl : j = l.length := by omega
        exact condF (by simp) ⟨rfl, rfl, rfl, rfl, rfl⟩
    · subst h1 h2 h3
      simpa [sl] using hK
  refine VCx.keepQ 0 0 (Nat.le_refl _) (Nat.le_refl _) (vcallF_is mixedQ_Try bodiesQ_Try hC hL (ev_pk f (l.map backE) (rfold key l l.length).1 (rfold key l l.length).2 key scoreZ _) ?_)
  exact ⟨rfl, ⟨rfl, rfl, rfl, trivial, rfl, rfl, rfl⟩, rfl, rfl⟩
end Go.Proofs.Ytdabfiichejkpaa
