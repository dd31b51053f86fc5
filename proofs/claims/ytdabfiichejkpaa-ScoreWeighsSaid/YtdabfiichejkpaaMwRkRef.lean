/- The reference's Rank: the ranked ones. -/
import Derived.Test.YtdabfiichejkpaaMwPkRef
import Derived.Test.YtdabfiichejkpaaMwRankRef
namespace Go.Proofs.Ytdabfiichejkpaa
open Go.RowKit

abbrev rrF := 21
def rrT (f : Int × Int × Int × Int × Int) (n k : Nat) : VT := ⟨[flO f], [(n, 3, false), (k, 3, true)]⟩
def rrV (m o : List (List TV)) (x : TV) : List TV := [.ptr 0 0, .vec 3 m .none, .vec 3 o (.tail 1 o.length), x]
def rrL (f : Int × Int × Int × Int × Int) (l r : List (List TV)) (c0 : Code) : Nat → Option (LSpec × Code) := specsL [(0, loopM 34 [2, 5, 6, 4] [(6, 3)] [5] [.ptr 0 0, .vec 3 l .none, .vec 3 [] (.tail 1 0), .val (.slice none 0 0)] (rrT f l.length 0) fun K => ∀ m : List (List TV), K .ret (slotsN 34 [2, 5, 6, 4] (rrV m r (.vec 3 r (.tail 1 r.length)))) (rrT f l.length r.length) [], c0)]
set_option maxRecDepth 100000 in
theorem ev_rr (f : Int × Int × Int × Int × Int) (l r : List (List TV)) (Q : TV → VT → Prop) : vcallF Try.prog (fun _ => none) (fun _ => none) (tells [(10, .vec 3 l (.tail 0 l.length), some ⟨[flO f], [(l.length, 3, false)]⟩)]) 300 (rrL f l r (codeAt Try.prog rrF 0)) 0 rrF [flV f, .vec 3 l .none] ⟨[],[]⟩ Q =
 (OTurn Try.prog (fun x => none) 0 ⟨[(.cells [(.val (.int .i64 (Prod.fst f))), (.val (.int .u32 (Prod.fst (Prod.snd f)))), (.val (.int .u32 (Prod.fst (Prod.snd (Prod.snd f))))), (.val (.int .i64 (Prod.fst (Prod.snd (Prod.snd (Prod.snd f)))))), (.val (.int .i64 (Prod.snd (Prod.snd (Prod.snd (Prod.snd f))))))])], []⟩ (.call ⟨(.builtin .append), #[(.tmp 8), (.tmp 9)], #[25, 25]⟩) [(8, (.vec 3 [] .full)), (9, (.vec 3 (l) .none))] (.vec 3 (l) (.tail 0 (List.length l))) ⟨[(.cells [(.val (.int .i64 (Prod.fst f))), (.val (.int .u32 (Prod.fst (Prod.snd f)))), (.val (.int .u32 (Prod.fst (Prod.snd (Prod.snd f))))), (.val (.int .i64 (Prod.fst (Prod.snd (Prod.snd (Prod.snd f)))))), (.val (.int .i64 (Prod.snd (Prod.snd (Prod.snd (Prod.snd f))))))])], [((List.length l), (3, false))]⟩ ∧
 ((codeAt Try.prog rrF (0 : Nat) = codeAt Try.prog rrF (0 : Nat)) ∧
 (((@Eq (Option Nat) .none .none) ∧
 ((@Eq (Nat) 0 0) ∧
 ((@Eq (List Nat) [] []) ∧
 (((@Eq (Option TV) (.some (.val (.slice .none 0 0))) (.some (.val (.slice .none 0 0)))) ∧
 True ) ∧
 ((@Eq (VT) ⟨[(.cells [(.val (.int .i64 (Prod.fst f))), (.val (.int .u32 (Prod.fst (Prod.snd f)))), (.val (.int .u32 (Prod.fst (Prod.snd (Prod.snd f))))), (.val (.int .i64 (Prod.fst (Prod.snd (Prod.snd (Prod.snd f)))))), (.val (.int .i64 (Prod.snd (Prod.snd (Prod.snd (Prod.snd f))))))])], [((List.length l), (3, false)), (0, (3, true))]⟩ ⟨[(.cells [(.val (.int .i64 (Prod.fst f))), (.val (.int .u32 (Prod.fst (Prod.snd f)))), (.val (.int .u32 (Prod.fst (Prod.snd (Prod.snd f))))), (.val (.int .i64 (Prod.fst (Prod.snd (Prod.snd (Prod.snd f)))))), (.val (.int .i64 (Prod.snd (Prod.snd (Prod.snd (Prod.snd f))))))])], [((List.length l), (3, false)), (0, (3, true))]⟩) ∧
 ((@Eq (Bool) true true) ∧
 (@Eq (List TV) [(.ptr 0 0), (.vec 3 (l) .none), (.vec 3 [] (.tail 1 0)), (.val (.slice .none 0 0))] [(.ptr 0 0), (.vec 3 (l) .none), (.vec 3 [] (.tail 1 0)), (.val (.slice .none 0 0))]))))))) ∧
 (∀ m : List (List TV), Q (.vec 3 (r) (.tail 1 (List.length r))) ⟨[(.cells [(.val (.int .i64 (Prod.fst f))), (.val (.int .u32 (Prod.fst (Prod.snd f)))), (.val (.int .u32 (Prod.fst (Prod.snd (Prod.snd f))))), (.val (.int .i64 (Prod.fst (Prod.snd (Prod.snd (Prod.snd f)))))), (.val (.int .i64 (Prod.snd (Prod.snd (Prod.snd (Prod.snd f))))))])], [((List.length l), (3, false)), ((List.length r), (3, true))]⟩)))) := by kernel_rfl
set_option maxRecDepth 100000 in
theorem ev_rr0 (f : Int × Int × Int × Int × Int) (m o : List (List TV)) (n : Nat) (z : Int) (b : Bk) (Q : Exit → List TV → VT → List Nat → Nat → Prop) : vx Try.prog (fun _ => none) (specs [(18, pureAt [flV f, .vec 3 m .none] (.val (.int .i64 z)))]) (tells [(999999, .dead, none), (20, .elt [.val (.int .i64 b.1), .val (.int .u32 b.2.1), .val (.int .i64 b.2.2)], none), (23, .vec 3 (o ++ [[.val (.int .i64 b.1), .val (.int .u32 b.2.1), .val (.int .i64 b.2.2)]]) (.tail 1 (o.length + 1)), some (rrT f n (o.length + 1))), (27, .vec 3 (m.take z.toNat) .none, none), (32, .vec 3 (m.drop (z.toNat + 1)) .none, none), (28, .vec 3 (m.take z.toNat) (.tail 2 (m.take z.toNat).length), some ⟨[flO f], [(n, 3, false), (o.length + 1, 3, true), ((m.take z.toNat).length, 3, false)]⟩), (33, .vec 3 (m.take z.toNat ++ m.drop (z.toNat + 1)) (.tail 2 ((m.take z.toNat).length + (m.drop (z.toNat + 1)).length)), some ⟨[flO f], [(n, 3, false), (o.length + 1, 3, true), ((m.take z.toNat).length + (m.drop (z.toNat + 1)).length, 3, false)]⟩)]) 300 (fun _ => none) none 0 (loopAt Try.prog rrF 0) (slotsN 34 [2, 5, 6, 4] (rrV m o (.val (.slice none 0 0)))) (rrT f n o.length) [] (pickS [2, 5, 6, 4] Q) =
 ((@Eq (List TV) [(.agg [(.val (.int .i64 (Prod.fst f))), (.val (.int .u32 (Prod.fst (Prod.snd f)))), (.val (.int .u32 (Prod.fst (Prod.snd (Prod.snd f))))), (.val (.int .i64 (Prod.fst (Prod.snd (Prod.snd (Prod.snd f)))))), (.val (.int .i64 (Prod.snd (Prod.snd (Prod.snd (Prod.snd f))))))]), (.vec 3 (m) .none)] [(.agg [(.val (.int .i64 (Prod.fst f))), (.val (.int .u32 (Prod.fst (Prod.snd f)))), (.val (.int .u32 (Prod.fst (Prod.snd (Prod.snd f))))), (.val (.int .i64 (Prod.fst (Prod.snd (Prod.snd (Prod.snd f)))))), (.val (.int .i64 (Prod.snd (Prod.snd (Prod.snd (Prod.snd f))))))]), (.vec 3 (m) .none)]) ∧
 (bif decide (z < (0 : Int))
 then Q .ret [(.ptr 0 0), (.vec 3 (m) .none), (.vec 3 (o) (.tail 1 (List.length o))), (.vec 3 (o) (.tail 1 (List.length o)))] ⟨[(.cells [(.val (.int .i64 (Prod.fst f))), (.val (.int .u32 (Prod.fst (Prod.snd f)))), (.val (.int .u32 (Prod.fst (Prod.snd (Prod.snd f))))), (.val (.int .i64 (Prod.fst (Prod.snd (Prod.snd (Prod.snd f)))))), (.val (.int .i64 (Prod.snd (Prod.snd (Prod.snd (Prod.snd f))))))])], [((n), (3, false)), ((List.length o), (3, true))]⟩ [] 34
 else (OPure Try.prog (fun x => none) (.indexAddr 25 (.tmp 18) (.tmp 19)) [(18, (.vec 3 (m) .none)), (19, (.val (.int .i64 (z))))] (.elt [(.val (.int .i64 (Prod.fst b))), (.val (.int .u32 (Prod.fst (Prod.snd b)))), (.val (.int .i64 (Prod.snd (Prod.snd b))))]) ∧
 (OTurn Try.prog (fun x => none) 0 ⟨[(.cells [(.val (.int .i64 (Prod.fst f))), (.val (.int .u32 (Prod.fst (Prod.snd f)))), (.val (.int .u32 (Prod.fst (Prod.snd (Prod.snd f))))), (.val (.int .i64 (Prod.fst (Prod.snd (Prod.snd (Prod.snd f)))))), (.val (.int .i64 (Prod.snd (Prod.snd (Prod.snd (Prod.snd f))))))])], [((n), (3, false)), ((List.length o), (3, true))]⟩ (.call ⟨(.builtin .append), #[(.tmp 17), (.tmp 22)], #[25, 25]⟩) [(17, (.vec 3 (o) (.tail 1 (List.length o)))), (22, (.vec 3 [[(.val (.int .i64 (Prod.fst b))), (.val (.int .u32 (Prod.fst (Prod.snd b)))), (.val (.int .i64 (Prod.snd (Prod.snd b))))]] .full))] (.vec 3 (o ++ [[TV.val (Value.int IntKind.i64 (Prod.fst b)), TV.val (Value.int IntKind.u32 (Prod.fst (Prod.snd b))), TV.val (Value.int IntKind.i64 (Prod.snd (Prod.snd b)))]]) (.tail 1 (List.length o + (1 : Nat)))) ⟨[(.cells [(.val (.int .i64 (Prod.fst f))), (.val (.int .u32 (Prod.fst (Prod.snd f)))), (.val (.int .u32 (Prod.fst (Prod.snd (Prod.snd f))))), (.val (.int .i64 (Prod.fst (Prod.snd (Prod.snd (Prod.snd f)))))), (.val (.int .i64 (Prod.snd (Prod.snd (Prod.snd (Prod.snd f))))))])], [((n), (3, false)), ((List.length o + (1 : Nat)), (3, true))]⟩ ∧
 (OPure Try.prog (fun x => none) (.slice 25 (.tmp 25) .none (.some (.tmp 26)) .none) [(25, (.vec 3 (m) .none)), (26, (.val (.int .i64 (z))))] (.vec 3 (List.take (Int.toNat z) m) .none) ∧
 (OPure Try.prog (fun x => none) (.slice 25 (.tmp 29) (.some (.tmp 31)) .none .none) [(29, (.vec 3 (m) .none)), (31, (.val (.int .i64 (IntKind.wrap IntKind.i64 (z + (1 : Int))))))] (.vec 3 (List.drop (Int.toNat z + (1 : Nat)) m) .none) ∧
 (OTurn Try.prog (fun x => none) 0 ⟨[(.cells [(.val (.int .i64 (Prod.fst f))), (.val (.int .u32 (Prod.fst (Prod.snd f)))), (.val (.int .u32 (Prod.fst (Prod.snd (Prod.snd f))))), (.val (.int .i64 (Prod.fst (Prod.snd (Prod.snd (Prod.snd f)))))), (.val (.int .i64 (Prod.snd (Prod.snd (Prod.snd (Prod.snd f))))))])], [((n), (3, false)), ((List.length o + (1 : Nat)), (3, true))]⟩ (.call ⟨(.builtin .append), #[(.tmp 24), (.tmp 27)], #[25, 25]⟩) [(24, (.vec 3 [] .full)), (27, (.vec 3 (List.take (Int.toNat z) m) .none))] (.vec 3 (List.take (Int.toNat z) m) (.tail 2 (List.length (List.take (Int.toNat z) m)))) ⟨[(.cells [(.val (.int .i64 (Prod.fst f))), (.val (.int .u32 (Prod.fst (Prod.snd f)))), (.val (.int .u32 (Prod.fst (Prod.snd (Prod.snd f))))), (.val (.int .i64 (Prod.fst (Prod.snd (Prod.snd (Prod.snd f)))))), (.val (.int .i64 (Prod.snd (Prod.snd (Prod.snd (Prod.snd f))))))])], [((n), (3, false)), ((List.length o + (1 : Nat)), (3, true)), ((List.length (List.take (Int.toNat z) m)), (3, false))]⟩ ∧
 (OTurn Try.prog (fun x => none) 0 ⟨[(.cells [(.val (.int .i64 (Prod.fst f))), (.val (.int .u32 (Prod.fst (Prod.snd f)))), (.val (.int .u32 (Prod.fst (Prod.snd (Prod.snd f))))), (.val (.int .i64 (Prod.fst (Prod.snd (Prod.snd (Prod.snd f)))))), (.val (.int .i64 (Prod.snd (Prod.snd (Prod.snd (Prod.snd f))))))])], [((n), (3, false)), ((List.length o + (1 : Nat)), (3, true)), ((List.length (List.take (Int.toNat z) m)), (3, false))]⟩ (.call ⟨(.builtin .append), #[(.tmp 28), (.tmp 32)], #[25, 25]⟩) [(28, (.vec 3 (List.take (Int.toNat z) m) (.tail 2 (List.length (List.take (Int.toNat z) m))))), (32, (.vec 3 (List.drop (Int.toNat z + (1 : Nat)) m) .none))] (.vec 3 (List.take (Int.toNat z) m ++ List.drop (Int.toNat z + (1 : Nat)) m) (.tail 2 (List.length (List.take (Int.toNat z) m) + List.length (List.drop (Int.toNat z + (1 : Nat)) m)))) ⟨[(.cells [(.val (.int .i64 (Prod.fst f))), (.val (.int .u32 (Prod.fst (Prod.snd f)))), (.val (.int .u32 (Prod.fst (Prod.snd (Prod.snd f))))), (.val (.int .i64 (Prod.fst (Prod.snd (Prod.snd (Prod.snd f)))))), (.val (.int .i64 (Prod.snd (Prod.snd (Prod.snd (Prod.snd f))))))])], [((n), (3, false)), ((List.length o + (1 : Nat)), (3, true)), ((List.length (List.take (Int.toNat z) m) + List.length (List.drop (Int.toNat z + (1 : Nat)) m)), (3, false))]⟩ ∧
 Q .normal [(.ptr 0 0), (.vec 3 (List.take (Int.toNat z) m ++ List.drop (Int.toNat z + (1 : Nat)) m) (.tail 2 (List.length (List.take (Int.toNat z) m) + List.length (List.drop (Int.toNat z + (1 : Nat)) m)))), (.vec 3 (o ++ [[TV.val (Value.int IntKind.i64 (Prod.fst b)), TV.val (Value.int IntKind.u32 (Prod.fst (Prod.snd b))), TV.val (Value.int IntKind.i64 (Prod.snd (Prod.snd b)))]]) (.tail 1 (List.length o + (1 : Nat)))), (.val (.slice .none 0 0))] ⟨[(.cells [(.val (.int .i64 (Prod.fst f))), (.val (.int .u32 (Prod.fst (Prod.snd f)))), (.val (.int .u32 (Prod.fst (Prod.snd (Prod.snd f))))), (.val (.int .i64 (Prod.fst (Prod.snd (Prod.snd (Prod.snd f)))))), (.val (.int .i64 (Prod.snd (Prod.snd (Prod.snd (Prod.snd f))))))])], [((n), (3, false)), ((List.length o + (1 : Nat)), (3, true)), ((List.length (List.take (Int.toNat z) m) + List.length (List.drop (Int.toNat z + (1 : Nat)) m)), (3, false))]⟩ [] 34)))))))) := by kernel_rfl

theorem bkInf_ex : ∃ inf : TypeInfo, Try.prog.info? 29 = some inf ∧ inf.size = 3 ∧ inf.bytes + 1 ≤ 1000 ∧ inf.zero = some (.agg #[.int .i64 0, .int .u32 0, .int .i64 0]) :=
  ⟨(Try.prog.info? 29).getD default, by kernel_rfl, by kernel_rfl, Nat.le_of_ble_eq_true (by kernel_rfl), by kernel_rfl⟩
theorem oturn_bk {T T1 : VT} {s x : Operand} {l : List (Nat × TV)} {es es2 : List (List TV)} {k n : Nat} {bn : Bool} (hs : vadopt T 3 (evOf (fun _ => none) l s) = some (es, k, n, bn, T1)) (hx : srcOf 3 (evOf (fun _ => none) l x) = some es2) (hb : es.length + es2.length ≤ 3000) :
    OTurn Try.prog (fun _ => none) 0 T (.call ⟨.builtin .append, #[s, x], #[25, 25]⟩) l (.vec 3 (es ++ es2) (.tail k (n + es2.length))) { T1 with tails := T1.tails.set k (n + es2.length, 3, bn) } := by
  obtain ⟨inf, bkInf_at, bkInf_size, bkInf_bytes, bkInf_zero⟩ := bkInf_ex
  have h := oturn_app (inf := inf) (P := Try.prog) (G := fun _ => none) (ro := 0) (T := T) (T1 := T1) (t := 25) (tx := 25) (s := s) (x := x) (l := l) (es := es) (es2 := es2) (k := k) (n := n) (bn := bn) Try.underlying25 bkInf_at bkInf_zero (by rw [bkInf_size]; rfl) (by rw [bkInf_size]; decide) (by kernel_rfl) (by rw [bkInf_size]; exact hs) (by rw [bkInf_size]; exact hx)
    (by have h1 := bkInf_bytes
        have h2 := Nat.mul_le_mul hb h1
        omega)
  rw [bkInf_size] at h
  exact h
theorem opure_hi3 {x i : Operand} {l : List (Nat × TV)} {es : List (List TV)} {tok : Tok} {k : IntKind} {z : Int} (hx : evOf (fun _ => none) l x = .vec 3 es tok) (hz : evOf (fun _ => none) l i = .val (.int k z)) (h0 : 0 ≤ z) (he : z.toNat ≤ es.length) : OPure Try.prog (fun _ => none) (.slice 25 x none (some i) none) l (.vec 3 (es.take z.toNat) .none) := by
  obtain ⟨inf, bkInf_at, bkInf_size, _, _⟩ := bkInf_ex
  have h := opure_hi (inf := inf) (P := Try.prog) (G := fun _ => none) (x := x) (i := i) (l := l) (es := es) (tok := tok) Try.underlying25 bkInf_at (by rw [bkInf_size]; exact hx) hz h0 he
  rw [bkInf_size] at h
  exact h
theorem opure_lo3 {x i : Operand} {l : List (Nat × TV)} {es : List (List TV)} {tok : Tok} {k : IntKind} {z : Int} {n : Nat} (hx : evOf (fun _ => none) l x = .vec 3 es tok) (hz : evOf (fun _ => none) l i = .val (.int k z)) (h0 : 0 ≤ z) (hn : z.toNat = n) (he : n ≤ es.length) : OPure Try.prog (fun _ => none) (.slice 25 x (some i) none none) l (.vec 3 (es.drop n) tok) := by
  subst hn
  obtain ⟨inf, bkInf_at, bkInf_size, _, _⟩ := bkInf_ex
  have h := opure_lo (inf := inf) (P := Try.prog) (G := fun _ => none) (x := x) (i := i) (l := l) (es := es) (tok := tok) Try.underlying25 bkInf_at (by rw [bkInf_size]; exact hx) hz h0 he
  rw [bkInf_size] at h
  exact h
theorem rankL_len (key : Int) (l : List Bk) : (rankL key l).length ≤ l.length := by
  rw [show (rankL key l).length = (sortS (seatsL key 0 l)).length from atL_len _ _, sortS_len]
  exact seatsL_len key l 0
theorem rank_ref (f : Int × Int × Int × Int × Int) (l : List Bk) (hl : l.length ≤ 1000) : VCx Try.prog (fun _ => none) 0 rrF [flV f, .vec 3 (l.map backE) .none] ⟨[], []⟩ fun x T' => x = .vec 3 ((rankL (flowK f.1 f.2.1 f.2.2.1 f.2.2.2.1 f.2.2.2.2) l).map backE) .none ∧ T' = ⟨[], []⟩ := by
  have hpick := pick_ref f
  generalize flowK f.1 f.2.1 f.2.2.1 f.2.2.2.1 f.2.2.2.2 = key at *
  have hrl := rankL_len key l
  have hL : LsOk Try.prog (fun _ => none) (rrL f (l.map backE) ((rankL key l).map backE) (codeAt Try.prog rrF 0)) := specsL_ok fun p hp => by
    obtain rfl := List.mem_singleton.1 hp
    refine loopM_ok fun K hK => ?_
    let sl : List Bk × List Bk → List TV := fun s => rrV (s.1.map backE) (s.2.map backE) (.val (.slice none 0 0))
    let tt : List Bk × List Bk → VT := fun s => rrT f (l.map backE).length (s.2.map backE).length
    let Inv : List Bk × List Bk → Prop := fun s => s.1.length ≤ l.length ∧ s.2 ++ rankL key s.1 = rankL key l
    let Post : Exit → List TV → VT → Prop := fun e vs T => e = .ret ∧ ∃ m : List (List TV), vs = rrV m ((rankL key l).map backE) (.vec 3 ((rankL key l).map backE) (.tail 1 ((rankL key l).map backE).length)) ∧ T = rrT f (l.map backE).length ((rankL key l).map backE).length
    refine loopK (f := rrF) (id := 0) (by kernel_rfl) 34 [2, 5, 6, 4] (fun s => s.1.length) sl tt Inv 1 2 (fun _ _ => ⟨Nat.le_refl _, Nat.le_refl _⟩)
      Post (fun s hs => ?_) (l, []) ⟨Nat.le_refl _, rfl⟩ K (fun e vs T h => ?_)
    · obtain ⟨m, o⟩ := s
      obtain ⟨hml, hinv⟩ := hs
      simp only at hml hinv
      have hol : o.length ≤ l.length := by
        have := congrArg List.length hinv
        rw [List.length_append] at this; omega
      have hC : SpecsOk Try.prog (fun _ => none) (specs [(18, pureAt [flV f, .vec 3 (m.map backE) .none] (.val (.int .i64 (rfold key m m.length).1)))]) := specs_ok fun p hp => by
        obtain rfl := List.mem_singleton.1 hp
        exact pureAt_ok gvals_none (by simp only [flV, flowE, renL, TV.ren, ren_backE, Tok.ren]) (fun _ _ => rfl) (hpick m (by omega))
      rcases rankL_step key m with ⟨hz, hnil⟩ | ⟨i, b, hz, hb, hcons⟩
      · have hev := ev_rr0 f (m.map backE) (o.map backE) (l.map backE).length (rfold key m m.length).1 (0, 0, 0) (loopQ 34 0 (fun s => s.1.length) sl tt Inv 1 2 (m, o) Post)
        refine vx_is mixedQ_Try bodiesQ_Try hC lsOk_none hev ?_
        rw [hnil, List.append_nil] at hinv
        subst hinv
        refine ⟨rfl, condT (by rw [hz]; rfl) ⟨rfl, rfl, rfl, m.map backE, rfl, rfl⟩⟩
      · have hev := ev_rr0 f (m.map backE) (o.map backE) (l.map backE).length (rfold key m m.length).1 b (loopQ 34 0 (fun s => s.1.length) sl tt Inv 1 2 (m, o) Post)
        refine vx_is mixedQ_Try bodiesQ_Try hC lsOk_none hev ?_
        rw [hz]
        have hi := (List.getElem?_eq_some_iff.1 hb).1
        have hw := wrapN i (by omega)
        have hi2 : (Int.toNat (i : Int)) = i := Int.toNat_natCast i
        have hme : List.take (Int.toNat (i : Int)) (m.map backE) ++ List.drop (Int.toNat (i : Int) + 1) (m.map backE) = (m.eraseIdx i).map backE := by
          rw [hi2, List.eraseIdx_eq_take_drop_succ, List.map_append, List.map_take, List.map_drop]
        have hob : (o.map backE) ++ [backE b] = (o ++ [b]).map backE := by simp
        have hol2 : (o.map backE).length + 1 = ((o ++ [b]).map backE).length := by simp
        have h3 : (List.take (Int.toNat (i : Int)) (m.map backE)).length ≤ 1000 := by simp; omega
        have h4 : (List.drop (Int.toNat (i : Int) + 1) (m.map backE)).length ≤ 1000 := by simp; omega
        have a1 := oturn_bk (T := rrT f (l.map backE).length (o.map backE).length) (T1 := rrT f (l.map backE).length (o.map backE).length) (s := .tmp 17) (x := .tmp 22) (l := [(17, .vec 3 (o.map backE) (.tail 1 (o.map backE).length)), (22, .vec 3 [backE b] .full)]) (es := o.map backE) (es2 := [backE b]) (k := 1) (n := (o.map backE).length) (bn := true)
          (by simp [evOf, evFind, vadopt, rrT]) (by rfl) (by simp; omega)
        refine ⟨rfl, condF (by simp) ⟨opure_bk2 rfl rfl (Int.natCast_nonneg _) (by rw [hi2]; exact hb), a1, opure_hi3 rfl rfl (Int.natCast_nonneg _) (by simp; omega), opure_lo3 rfl rfl (by rw [hw]; exact Int.natCast_nonneg _) (by rw [hw]; simp) (by simp; omega), ?_, ?_, ?_⟩⟩
        · have a2 := oturn_bk (T := ⟨[flO f], [((l.map backE).length, 3, false), ((o.map backE).length + 1, 3, true)]⟩) (T1 := ⟨[flO f], [((l.map backE).length, 3, false), ((o.map backE).length + 1, 3, true), (0, 3, false)]⟩) (s := .tmp 24) (x := .tmp 27) (l := [(24, .vec 3 [] .full), (27, .vec 3 (List.take (Int.toNat (i : Int)) (m.map backE)) .none)]) (es := []) (es2 := List.take (Int.toNat (i : Int)) (m.map backE)) (k := 2) (n := 0) (bn := false)
            (by simp [evOf, evFind, vadopt]) (by rfl) (by simp only [List.length_nil]; omega)
          simp only [List.nil_append, Nat.zero_add] at a2
          exact a2
        · exact oturn_bk (T := ⟨[flO f], [((l.map backE).length, 3, false), ((o.map backE).length + 1, 3, true), ((List.take (Int.toNat (i : Int)) (m.map backE)).length, 3, false)]⟩) (T1 := ⟨[flO f], [((l.map backE).length, 3, false), ((o.map backE).length + 1, 3, true), ((List.take (Int.toNat (i : Int)) (m.map backE)).length, 3, false)]⟩) (es := List.take (Int.toNat (i : Int)) (m.map backE)) (es2 := List.drop (Int.toNat (i : Int) + 1) (m.map backE)) (k := 2) (n := (List.take (Int.toNat (i : Int)) (m.map backE)).length) (bn := false)
            (by simp [evOf, evFind, vadopt]) (by rfl) (by omega)
        · refine ⟨rfl, rfl, (m.eraseIdx i, o ++ [b]), ⟨?_, ?_⟩, ?_, .inr ⟨?_, ?_⟩⟩
          · simp only [List.length_eraseIdx]; split <;> omega
          · simp only [List.append_assoc, List.singleton_append]
            rw [← hcons]; exact hinv
          · simp only [List.length_eraseIdx]; rw [if_pos hi]; omega
          · show VT.keep ⟨_, [_, ((o.map backE).length + 1, 3, true), _]⟩ 1 2 = rrT f _ ((o ++ [b]).map backE).length
            rw [hol2]
            rfl
          · show renL _ _ [.ptr 0 0, .vec 3 (List.take (Int.toNat (i : Int)) (m.map backE) ++ List.drop (Int.toNat (i : Int) + 1) (m.map backE)) (.tail 2 _), .vec 3 (o.map backE ++ [backE b]) (.tail 1 ((o.map backE).length + 1)), .val (.slice none 0 0)] = rrV ((m.eraseIdx i).map backE) ((o ++ [b]).map backE) (.val (.slice none 0 0))
            rw [hme, hob, hol2]
            simp only [rrV, renL, TV.ren, ren_backE, Tok.ren, keep, Nat.lt_irrefl, if_false, Nat.zero_lt_one, if_true, Nat.one_lt_two]
    · obtain ⟨rfl, m, rfl, rfl⟩ := h
      exact hK m
  refine VCx.keepQ 0 0 (Nat.le_refl _) (Nat.le_refl _) (vcallF_is mixedQ_Try bodiesQ_Try specsOk_none hL (ev_rr f (l.map backE) ((rankL key l).map backE) _) ?_)
  refine ⟨?_, rfl, ⟨rfl, rfl, rfl, ⟨rfl, trivial⟩, rfl, rfl, rfl⟩, fun m => ⟨?_, rfl⟩⟩
  · have a0 := oturn_bk (T := ⟨[flO f], []⟩) (T1 := ⟨[flO f], [(0, 3, false)]⟩) (s := .tmp 8) (x := .tmp 9) (l := [(8, .vec 3 [] .full), (9, .vec 3 (l.map backE) .none)]) (es := []) (es2 := l.map backE) (k := 0) (n := 0) (bn := false)
      (by simp [evOf, evFind, vadopt]) (by rfl) (by simp; omega)
    simp only [List.nil_append, Nat.zero_add] at a0
    exact a0
  · simp only [TV.ren, ren_backE, Tok.ren, keep, Nat.not_lt_zero, if_false]
end Go.Proofs.Ytdabfiichejkpaa
