/- Part 4 of the proof of messageReadsCard_holds: Vsr, Vtw, Vret ... No condition. -/
import Derived.Test.YtogbdjlelkepcaaGreatDoorSc1
import Derived.Test.YtogbdjlelkepcaaGreatDoorSc2
import Derived.Test.YtogbdjlelkepcaaGreatDoorSc3
set_option maxRecDepth 100000
namespace Go.Proofs.YtogbdjlelkepcaaGreatDoor
open Go.RowKit

def leB (b : Bs) (e : Int) : Int := bif decide (e = 0) then (b.length : Int) else 0
def sbW : Spec := fun ro ys T K => match ys with
 | [.ptr k 0, .val (.int .i64 n)] => match T.objs[k]? with
  | some (.cells [.val (.bool true), .vec 1 b .none, .val (.int .i64 a), .val (.int .i64 e)]) => (Nat.ble ro k = true ∧ IsB b) ∧ K (.vec 1 (tkB n b e) .none) { T with objs := T.objs.set k (srcO (tkR n b e) (tkA n b e a) (tkE n b e)) }
  | _ => False
 | _ => False
def slW : Spec := fun ro ys T K => match ys with
 | [.ptr k 0] => match T.objs[k]? with
  | some (.cells [.val (.bool true), .vec 1 b .none, .val (.int .i64 a), .val (.int .i64 e)]) => (Nat.ble ro k = true ∧ IsB b) ∧ K (.val (.int .i64 (leB b e))) T
  | _ => False
 | _ => False
def seW : Spec := fun ro ys T K => match ys with
 | [.ptr k 0] => match T.objs[k]? with
  | some (.cells [.val (.bool true), .vec 1 b .none, .val (.int .i64 a), .val (.int .i64 e)]) => (Nat.ble ro k = true ∧ IsB b) ∧ K (.val (.int .i64 e)) T
  | _ => False
 | _ => False
def ssubW : Spec := fun ro ys T K => match ys with
 | [.ptr k 0, .val (.int .i64 n)] => match T.objs[k]? with
  | some (.cells [.val (.bool true), .vec 1 b .none, .val (.int .i64 a), .val (.int .i64 e)]) => (Nat.ble ro k = true ∧ IsB b) ∧ K (.ptr T.objs.length 0) { T with objs := T.objs.set k (srcO (tkR n b e) (tkA n b e a) (tkE n b e)) ++ [srcO (tkB n b e) 0 0] }
  | _ => False
 | _ => False
def srestW : Spec := fun ro ys T K => match ys with
 | [.ptr k 0] => match T.objs[k]? with
  | some (.cells [.val (.bool true), .vec 1 b .none, .val (.int .i64 a), .val (.int .i64 e)]) => (Nat.ble ro k = true ∧ IsB b) ∧ K (.vec 1 (tkB (leB b e) b e) .none) { T with objs := T.objs.set k (srcO (tkR (leB b e) b e) (tkA (leB b e) b e a) (tkE (leB b e) b e)) }
  | _ => False
 | _ => False
def sreadW : Spec := fun _ ys T K => match ys with
 | [.vec 1 b _] => IsB b ∧ K (.ptr T.objs.length 0) { T with objs := T.objs ++ [srcO b 0 0] }
 | _ => False
section
variable {P : Program} {G : Globs}
theorem set_same {T : VT} {k : Nat} {o : VO} (h : T.objs[k]? = some o) : T.objs.set k o = T.objs := by
 apply List.ext_getElem?
 intro j
 rw [List.getElem?_set]
 split
 ·rename_i e; subst e
  rw [if_pos (List.getElem?_eq_some_iff.1 h).1, h]
 ·rfl
theorem sbW_ok (hG : GVals G) {f : FuncId} (h : ∀ b a e n, IsB b → VCx P G 0 f [.ptr 0 0, .val (.int .i64 n)] ⟨[srcO b a e], []⟩ fun x T' => x = .vec 1 (tkB n b e) .none ∧ T' = ⟨[srcO (tkR n b e) (tkA n b e a) (tkE n b e)], []⟩) :
  ∀ ro ys T K, sbW ro ys T K → VCx P G ro f ys T K := by
 intro ro ys T K hw
 unfold sbW at hw
 split at hw
 ·rename_i k n
  split at hw
  ·rename_i b a e ho
   obtain ⟨⟨hro, hb⟩, hk⟩ := hw
   refine VCx.at1 (Q := fun x o' l' => x = .vec 1 (tkB n b e) .none ∧ o' = srcO (tkR n b e) (tkA n b e a) (tkE n b e) ∧ l' = []) hG (Nat.le_of_ble_eq_true hro) ho rfl (srcO_ren hb a e _ _) (ys1 := [.ptr 0 0, .val (.int .i64 n)]) (by simp [renL, TV.ren, nameIn]) ((h b a e n hb).mono fun x T' ⟨h1, h2⟩ => ⟨_, _, h2, h1, rfl, rfl⟩) ?_
   rintro x o' l' ⟨rfl, rfl, rfl⟩
   rw [srcO_ren (tkR_is hb)]
   simpa [TV.ren, (tkB_is hb).ren, Tok.ren] using hk
  ·exact hw.elim
 ·exact hw.elim
theorem slW_ok (hG : GVals G) {f : FuncId} (h : ∀ b a e, IsB b → VCx P G 0 f [.ptr 0 0] ⟨[srcO b a e], []⟩ fun x T' => x = .val (.int .i64 (leB b e)) ∧ T' = ⟨[srcO b a e], []⟩) :
  ∀ ro ys T K, slW ro ys T K → VCx P G ro f ys T K := by
 intro ro ys T K hw
 unfold slW at hw
 split at hw
 ·rename_i k
  split at hw
  ·rename_i b a e ho
   obtain ⟨⟨hro, hb⟩, hk⟩ := hw
   refine VCx.at1 (Q := fun x o' l' => x = .val (.int .i64 (leB b e)) ∧ o' = srcO b a e ∧ l' = []) hG (Nat.le_of_ble_eq_true hro) ho rfl (srcO_ren hb a e _ _) (ys1 := [.ptr 0 0]) (by simp [renL, TV.ren, nameIn]) ((h b a e hb).mono fun x T' ⟨h1, h2⟩ => ⟨_, _, h2, h1, rfl, rfl⟩) ?_
   rintro x o' l' ⟨rfl, rfl, rfl⟩
   rw [srcO_ren hb, show T.objs.set k (srcO b a e) = T.objs from set_same ho]
   simpa [TV.ren] using hk
  ·exact hw.elim
 ·exact hw.elim
theorem seW_ok (hG : GVals G) {f : FuncId} (h : ∀ b a e, IsB b → VCx P G 0 f [.ptr 0 0] ⟨[srcO b a e], []⟩ fun x T' => x = .val (.int .i64 e) ∧ T' = ⟨[srcO b a e], []⟩) :
  ∀ ro ys T K, seW ro ys T K → VCx P G ro f ys T K := by
 intro ro ys T K hw
 unfold seW at hw
 split at hw
 ·rename_i k
  split at hw
  ·rename_i b a e ho
   obtain ⟨⟨hro, hb⟩, hk⟩ := hw
   refine VCx.at1 (Q := fun x o' l' => x = .val (.int .i64 e) ∧ o' = srcO b a e ∧ l' = []) hG (Nat.le_of_ble_eq_true hro) ho rfl (srcO_ren hb a e _ _) (ys1 := [.ptr 0 0]) (by simp [renL, TV.ren, nameIn]) ((h b a e hb).mono fun x T' ⟨h1, h2⟩ => ⟨_, _, h2, h1, rfl, rfl⟩) ?_
   rintro x o' l' ⟨rfl, rfl, rfl⟩
   rw [srcO_ren hb, show T.objs.set k (srcO b a e) = T.objs from set_same ho]
   simpa [TV.ren] using hk
  ·exact hw.elim
 ·exact hw.elim
theorem ssubW_ok (hG : GVals G) {f : FuncId} (h : ∀ b a e n, IsB b → VCx P G 0 f [.ptr 0 0, .val (.int .i64 n)] ⟨[srcO b a e], []⟩ fun x T' => x = .ptr 1 0 ∧ T' = ⟨[srcO (tkR n b e) (tkA n b e a) (tkE n b e), srcO (tkB n b e) 0 0], []⟩) :
  ∀ ro ys T K, ssubW ro ys T K → VCx P G ro f ys T K := by
 intro ro ys T K hw
 unfold ssubW at hw
 split at hw
 ·rename_i k n
  split at hw
  ·rename_i b a e ho
   obtain ⟨⟨hro, hb⟩, hk⟩ := hw
   refine VCx.at1 (Q := fun x o' l' => x = .ptr 1 0 ∧ o' = srcO (tkR n b e) (tkA n b e a) (tkE n b e) ∧ l' = [srcO (tkB n b e) 0 0]) hG (Nat.le_of_ble_eq_true hro) ho rfl (srcO_ren hb a e _ _) (ys1 := [.ptr 0 0, .val (.int .i64 n)]) (by simp [renL, TV.ren, nameIn]) ((h b a e n hb).mono fun x T' ⟨h1, h2⟩ => ⟨_, _, h2, h1, rfl, rfl⟩) ?_
   rintro x o' l' ⟨rfl, rfl, rfl⟩
   rw [srcO_ren (tkR_is hb)]
   simp only [List.map_cons, List.map_nil, srcO_ren (tkB_is hb)]
   simpa [TV.ren, nameOut] using hk
  ·exact hw.elim
 ·exact hw.elim
theorem srestW_ok (hG : GVals G) {f : FuncId} (h : ∀ b a e, IsB b → VCx P G 0 f [.ptr 0 0] ⟨[srcO b a e], []⟩ fun x T' => x = .vec 1 (tkB (leB b e) b e) .none ∧ T' = ⟨[srcO (tkR (leB b e) b e) (tkA (leB b e) b e a) (tkE (leB b e) b e)], []⟩) :
  ∀ ro ys T K, srestW ro ys T K → VCx P G ro f ys T K := by
 intro ro ys T K hw
 unfold srestW at hw
 split at hw
 ·rename_i k
  split at hw
  ·rename_i b a e ho
   obtain ⟨⟨hro, hb⟩, hk⟩ := hw
   refine VCx.at1 (Q := fun x o' l' => x = .vec 1 (tkB (leB b e) b e) .none ∧ o' = srcO (tkR (leB b e) b e) (tkA (leB b e) b e a) (tkE (leB b e) b e) ∧ l' = []) hG (Nat.le_of_ble_eq_true hro) ho rfl (srcO_ren hb a e _ _) (ys1 := [.ptr 0 0]) (by simp [renL, TV.ren, nameIn]) ((h b a e hb).mono fun x T' ⟨h1, h2⟩ => ⟨_, _, h2, h1, rfl, rfl⟩) ?_
   rintro x o' l' ⟨rfl, rfl, rfl⟩
   rw [srcO_ren (tkR_is hb)]
   simpa [TV.ren, (tkB_is hb).ren, Tok.ren] using hk
  ·exact hw.elim
 ·exact hw.elim
theorem sreadW_ok (hG : GVals G) {f : FuncId} (h : ∀ b, IsB b → VCx P G 0 f [.vec 1 b .none] ⟨[], []⟩ fun x T' => x = .ptr 0 0 ∧ T' = ⟨[srcO b 0 0], []⟩) :
  ∀ ro ys T K, sreadW ro ys T K → VCx P G ro f ys T K := by
 intro ro ys T K hw
 unfold sreadW at hw
 split at hw
 ·rename_i b tok
  obtain ⟨hb, hk⟩ := hw
  refine VCx.loose ?_
  refine (VCx.lift (xs := [.vec 1 b .none]) [] [] hG List.nodup_nil List.nodup_nil (fun k hk => by simp at hk) (by simp) (fun i hi => by simp at hi) (by simp [renL, looseTV, TV.ren, hb.ren, Tok.ren]) (h b hb) (fun x T' hq => ⟨Nat.zero_le _, Nat.zero_le _⟩)).mono ?_
  rintro x T' ⟨y, T2, ⟨rfl, rfl⟩, rfl, rfl⟩
  have e : VT.back T [] [] ⟨[srcO b 0 0], []⟩ = { T with objs := T.objs ++ [srcO b 0 0] } := by
   simp only [VT.back, List.map_cons, List.map_nil, srcO_ren hb, giveBack, List.append_nil]
  rw [e]
  simpa [TV.ren, nameOut] using hk
 ·exact hw.elim
end
def rsO (B : Bs) (n e : Int) : VO := .cells [.vec 1 B .none, .val (.int .i64 n), .val (.int .i64 e)]
def remB (B : Bs) (n : Int) : Bs := B.drop n.toNat
def tkN (m : Int) (B : Bs) (n e : Int) : Int := bif tkOk m (remB B n) e then n + m else n
def InB (B : Bs) (n : Int) : Prop := 0 ≤ n ∧ n ≤ B.length ∧ B.length ≤ 1000000
theorem rsO_ren {B : Bs} (h : IsB B) (n e : Int) (f g : Nat → Option Nat) : (rsO B n e).ren f g = rsO B n e := by
 simp only [rsO, VO.ren, renL, TV.ren, h.ren, Tok.ren]
theorem remB_is {B : Bs} (h : IsB B) (n : Int) : IsB (remB B n) := h.drop _
theorem tkN_in {B : Bs} {n : Int} (h : InB B n) (m e : Int) : InB B (tkN m B n e) := by
 unfold tkN
 cases hc : tkOk m (remB B n) e
 ·exact h
 ·obtain ⟨h1, h2, h3⟩ := h
  simp only [tkOk, remB, Bool.and_eq_true, decide_eq_true_eq, List.length_drop] at hc
  refine ⟨?_, ?_, h3⟩ <;> simp only [cond_true] <;> omega
theorem tkN_rem {B : Bs} {n : Int} (h : InB B n) (m e : Int) : remB B (tkN m B n e) = tkR m (remB B n) e := by
 unfold tkN tkR
 cases hc : tkOk m (remB B n) e
 ·rfl
 ·obtain ⟨h1, h2, h3⟩ := h
  simp only [tkOk, Bool.and_eq_true, decide_eq_true_eq] at hc
  simp only [cond_true, remB, List.drop_drop]
  congr 1
  omega
def rnW (kind : IntKind) (k : Nat) : Spec := fun ro ys T K => match ys with
 | [.ptr j 0] => match T.objs[j]? with
  | some (.cells [.vec 1 B .none, .val (.int .i64 n), .val (.int .i64 e)]) => (Nat.ble ro j = true ∧ IsB B ∧ InB B n) ∧ K (.val (.int kind (nmB k (remB B n) e))) { T with objs := T.objs.set j (rsO B (tkN k B n e) (tkE k (remB B n) e)) }
  | _ => False
 | _ => False
def rbW : Spec := fun ro ys T K => match ys with
 | [.ptr j 0, .val (.int .i64 m)] => match T.objs[j]? with
  | some (.cells [.vec 1 B .none, .val (.int .i64 n), .val (.int .i64 e)]) => (Nat.ble ro j = true ∧ IsB B ∧ InB B n) ∧ K (.vec 1 (tkB m (remB B n) e) .none) { T with objs := T.objs.set j (rsO B (tkN m B n e) (tkE m (remB B n) e)) }
  | _ => False
 | _ => False
def rlW : Spec := fun ro ys T K => match ys with
 | [.ptr j 0] => match T.objs[j]? with
  | some (.cells [.vec 1 B .none, .val (.int .i64 n), .val (.int .i64 e)]) => (Nat.ble ro j = true ∧ IsB B ∧ InB B n) ∧ K (.val (.int .i64 (leB (remB B n) e))) T
  | _ => False
 | _ => False
def rsubW : Spec := fun ro ys T K => match ys with
 | [.ptr j 0, .val (.int .i64 m)] => match T.objs[j]? with
  | some (.cells [.vec 1 B .none, .val (.int .i64 n), .val (.int .i64 e)]) => (Nat.ble ro j = true ∧ IsB B ∧ InB B n) ∧ K (.ptr T.objs.length 0) { T with objs := T.objs.set j (rsO B (tkN m B n e) (tkE m (remB B n) e)) ++ [rsO (tkB m (remB B n) e) 0 0] }
  | _ => False
 | _ => False
def rrestW : Spec := fun ro ys T K => match ys with
 | [.ptr j 0] => match T.objs[j]? with
  | some (.cells [.vec 1 B .none, .val (.int .i64 n), .val (.int .i64 e)]) => (Nat.ble ro j = true ∧ IsB B ∧ InB B n) ∧ K (.vec 1 (tkB (leB (remB B n) e) (remB B n) e) .none) { T with objs := T.objs.set j (rsO B (tkN (leB (remB B n) e) B n e) (tkE (leB (remB B n) e) (remB B n) e)) }
  | _ => False
 | _ => False
def rreadW : Spec := fun _ ys T K => match ys with
 | [.vec 1 b _] => (IsB b ∧ SmB b) ∧ K (.ptr T.objs.length 0) { T with objs := T.objs ++ [rsO b 0 0] }
 | _ => False
section
variable {P : Program} {G : Globs}
theorem rnW_ok (hG : GVals G) {f : FuncId} {kind : IntKind} {k : Nat} (h : ∀ B n e, IsB B → InB B n → VCx P G 0 f [.ptr 0 0] ⟨[rsO B n e], []⟩ fun x T' => x = .val (.int kind (nmB k (remB B n) e)) ∧ T' = ⟨[rsO B (tkN k B n e) (tkE k (remB B n) e)], []⟩) :
  ∀ ro ys T K, rnW kind k ro ys T K → VCx P G ro f ys T K := by
 intro ro ys T K hw
 unfold rnW at hw
 split at hw
 ·rename_i j
  split at hw
  ·rename_i B n e ho
   obtain ⟨⟨hro, hb, hi⟩, hk⟩ := hw
   refine VCx.at1 (Q := fun x o' l' => x = .val (.int kind (nmB k (remB B n) e)) ∧ o' = rsO B (tkN k B n e) (tkE k (remB B n) e) ∧ l' = []) hG (Nat.le_of_ble_eq_true hro) ho rfl (rsO_ren hb n e _ _) (ys1 := [.ptr 0 0]) (by simp [renL, TV.ren, nameIn]) ((h B n e hb hi).mono fun x T' ⟨h1, h2⟩ => ⟨_, _, h2, h1, rfl, rfl⟩) ?_
   rintro x o' l' ⟨rfl, rfl, rfl⟩
   rw [rsO_ren hb]
   simpa [TV.ren] using hk
  ·exact hw.elim
 ·exact hw.elim
theorem rbW_ok (hG : GVals G) {f : FuncId} (h : ∀ B n e m, IsB B → InB B n → VCx P G 0 f [.ptr 0 0, .val (.int .i64 m)] ⟨[rsO B n e], []⟩ fun x T' => x = .vec 1 (tkB m (remB B n) e) .none ∧ T' = ⟨[rsO B (tkN m B n e) (tkE m (remB B n) e)], []⟩) :
  ∀ ro ys T K, rbW ro ys T K → VCx P G ro f ys T K := by
 intro ro ys T K hw
 unfold rbW at hw
 split at hw
 ·rename_i j m
  split at hw
  ·rename_i B n e ho
   obtain ⟨⟨hro, hb, hi⟩, hk⟩ := hw
   refine VCx.at1 (Q := fun x o' l' => x = .vec 1 (tkB m (remB B n) e) .none ∧ o' = rsO B (tkN m B n e) (tkE m (remB B n) e) ∧ l' = []) hG (Nat.le_of_ble_eq_true hro) ho rfl (rsO_ren hb n e _ _) (ys1 := [.ptr 0 0, .val (.int .i64 m)]) (by simp [renL, TV.ren, nameIn]) ((h B n e m hb hi).mono fun x T' ⟨h1, h2⟩ => ⟨_, _, h2, h1, rfl, rfl⟩) ?_
   rintro x o' l' ⟨rfl, rfl, rfl⟩
   rw [rsO_ren hb]
   simpa [TV.ren, (tkB_is (remB_is hb n)).ren, Tok.ren] using hk
  ·exact hw.elim
 ·exact hw.elim
theorem rlW_ok (hG : GVals G) {f : FuncId} (h : ∀ B n e, IsB B → InB B n → VCx P G 0 f [.ptr 0 0] ⟨[rsO B n e], []⟩ fun x T' => x = .val (.int .i64 (leB (remB B n) e)) ∧ T' = ⟨[rsO B n e], []⟩) :
  ∀ ro ys T K, rlW ro ys T K → VCx P G ro f ys T K := by
 intro ro ys T K hw
 unfold rlW at hw
 split at hw
 ·rename_i j
  split at hw
  ·rename_i B n e ho
   obtain ⟨⟨hro, hb, hi⟩, hk⟩ := hw
   refine VCx.at1 (Q := fun x o' l' => x = .val (.int .i64 (leB (remB B n) e)) ∧ o' = rsO B n e ∧ l' = []) hG (Nat.le_of_ble_eq_true hro) ho rfl (rsO_ren hb n e _ _) (ys1 := [.ptr 0 0]) (by simp [renL, TV.ren, nameIn]) ((h B n e hb hi).mono fun x T' ⟨h1, h2⟩ => ⟨_, _, h2, h1, rfl, rfl⟩) ?_
   rintro x o' l' ⟨rfl, rfl, rfl⟩
   rw [rsO_ren hb, show T.objs.set j (rsO B n e) = T.objs from set_same ho]
   simpa [TV.ren] using hk
  ·exact hw.elim
 ·exact hw.elim
theorem rsubW_ok (hG : GVals G) {f : FuncId} (h : ∀ B n e m, IsB B → InB B n → VCx P G 0 f [.ptr 0 0, .val (.int .i64 m)] ⟨[rsO B n e], []⟩ fun x T' => x = .ptr 1 0 ∧ T' = ⟨[rsO B (tkN m B n e) (tkE m (remB B n) e), rsO (tkB m (remB B n) e) 0 0], []⟩) :
  ∀ ro ys T K, rsubW ro ys T K → VCx P G ro f ys T K := by
 intro ro ys T K hw
 unfold rsubW at hw
 split at hw
 ·rename_i j m
  split at hw
  ·rename_i B n e ho
   obtain ⟨⟨hro, hb, hi⟩, hk⟩ := hw
   refine VCx.at1 (Q := fun x o' l' => x = .ptr 1 0 ∧ o' = rsO B (tkN m B n e) (tkE m (remB B n) e) ∧ l' = [rsO (tkB m (remB B n) e) 0 0]) hG (Nat.le_of_ble_eq_true hro) ho rfl (rsO_ren hb n e _ _) (ys1 := [.ptr 0 0, .val (.int .i64 m)]) (by simp [renL, TV.ren, nameIn]) ((h B n e m hb hi).mono fun x T' ⟨h1, h2⟩ => ⟨_, _, h2, h1, rfl, rfl⟩) ?_
   rintro x o' l' ⟨rfl, rfl, rfl⟩
   rw [rsO_ren hb]
   simp only [List.map_cons, List.map_nil, rsO_ren (tkB_is (remB_is hb n))]
   simpa [TV.ren, nameOut] using hk
  ·exact hw.elim
 ·exact hw.elim
theorem rrestW_ok (hG : GVals G) {f : FuncId} (h : ∀ B n e, IsB B → InB B n → VCx P G 0 f [.ptr 0 0] ⟨[rsO B n e], []⟩ fun x T' => x = .vec 1 (tkB (leB (remB B n) e) (remB B n) e) .none ∧ T' = ⟨[rsO B (tkN (leB (remB B n) e) B n e) (tkE (leB (remB B n) e) (remB B n) e)], []⟩) :
  ∀ ro ys T K, rrestW ro ys T K → VCx P G ro f ys T K := by
 intro ro ys T K hw
 unfold rrestW at hw
 split at hw
 ·rename_i j
  split at hw
  ·rename_i B n e ho
   obtain ⟨⟨hro, hb, hi⟩, hk⟩ := hw
   refine VCx.at1 (Q := fun x o' l' => x = .vec 1 (tkB (leB (remB B n) e) (remB B n) e) .none ∧ o' = rsO B (tkN (leB (remB B n) e) B n e) (tkE (leB (remB B n) e) (remB B n) e) ∧ l' = []) hG (Nat.le_of_ble_eq_true hro) ho rfl (rsO_ren hb n e _ _) (ys1 := [.ptr 0 0]) (by simp [renL, TV.ren, nameIn]) ((h B n e hb hi).mono fun x T' ⟨h1, h2⟩ => ⟨_, _, h2, h1, rfl, rfl⟩) ?_
   rintro x o' l' ⟨rfl, rfl, rfl⟩
   rw [rsO_ren hb]
   simpa [TV.ren, (tkB_is (remB_is hb n)).ren, Tok.ren] using hk
  ·exact hw.elim
 ·exact hw.elim
theorem rreadW_ok (hG : GVals G) {f : FuncId} (h : ∀ b, IsB b → SmB b → VCx P G 0 f [.vec 1 b .none] ⟨[], []⟩ fun x T' => x = .ptr 0 0 ∧ T' = ⟨[rsO b 0 0], []⟩) :
  ∀ ro ys T K, rreadW ro ys T K → VCx P G ro f ys T K := by
 intro ro ys T K hw
 unfold rreadW at hw
 split at hw
 ·rename_i b tok
  obtain ⟨⟨hb, hl⟩, hk⟩ := hw
  refine VCx.loose ?_
  refine (VCx.lift (xs := [.vec 1 b .none]) [] [] hG List.nodup_nil List.nodup_nil (fun k hk => by simp at hk) (by simp) (fun i hi => by simp at hi) (by simp [renL, looseTV, TV.ren, hb.ren, Tok.ren]) (h b hb hl) (fun x T' hq => ⟨Nat.zero_le _, Nat.zero_le _⟩)).mono ?_
  rintro x T' ⟨y, T2, ⟨rfl, rfl⟩, rfl, rfl⟩
  have e : VT.back T [] [] ⟨[rsO b 0 0], []⟩ = { T with objs := T.objs ++ [rsO b 0 0] } := by
   simp only [VT.back, List.map_cons, List.map_nil, rsO_ren hb, giveBack, List.append_nil]
  rw [e]
  simpa [TV.ren, nameOut] using hk
 ·exact hw.elim
end
end Go.Proofs.YtogbdjlelkepcaaGreatDoor
namespace Go.Proofs.YtogbdjlelkepcaaGreatDoor
open Go.RowKit

section
variable {P : Program} {G : Globs}
end
end Go.Proofs.YtogbdjlelkepcaaGreatDoor
namespace Go.Proofs.YtogbdjlelkepcaaGreatDoor
open Go.RowKit

section
variable {P : Program} {G : Globs}
end
end Go.Proofs.YtogbdjlelkepcaaGreatDoor
namespace Go.Proofs.YtogbdjlelkepcaaGreatDoor
open Go.RowKit
abbrev zz0 : TV := (.val (.int .i64 1))
abbrev zz1 (a1 : Int) : TV := (.val (.int .i64 a1))
abbrev zz2 (a1 : List (List TV)) : TV := (.vec 1 a1 .none)
abbrev zz3 (a1 : Int) (a2 : List (List TV)) : VO := (.cells [zz0, (zz1 a1), (zz2 a2)])
abbrev zz4 : TV := (.val (.int .i64 0))
abbrev zz5 : TV := (.vec 1 [] .none)
abbrev zz6 : VO := (.cells [zz4, zz4, zz5])
abbrev zz7 (a1 : Int) : TV := (.val (.int .u32 a1))
abbrev zz8 (a1 : List (List TV)) : TV := (.vec 2 a1 .none)
abbrev zz9 (a1 : Bool) : TV := (.val (.bool a1))
abbrev zz10 (a1 a2 a3 a4 : Int) (a5 a6 : List (List TV)) (a7 : Int) (a8 : List (List TV)) (a9 a10 : Int) (a11 : Bool) (a12 : List (List TV)) (a13 a14 : Int) (a15 : List (List TV)) : VO := (.cells [(zz1 a1), (zz1 a2), (zz1 a3), (zz7 a4), (zz8 a5), (zz8 a6), (zz1 a7), (zz2 a8), (zz7 a9), (zz1 a10), (zz9 a11), (zz8 a12), (zz1 a13), (zz1 a14), (zz2 a15)])
abbrev zz11 (a1 a2 : Int) (a3 : List (List TV)) : VO := (.cells [(zz1 a1), (zz1 a2), (zz2 a3)])
abbrev zz12 (a1 : Int) (a2 : List (List TV)) (a3 a4 a5 a6 : Int) (a7 a8 : List (List TV)) (a9 : Int) (a10 : List (List TV)) (a11 a12 : Int) (a13 : Bool) (a14 : List (List TV)) (a15 a16 : Int) (a17 : List (List TV)) (a18 a19 : Int) (a20 : List (List TV)) (a21 a22 a23 a24 : Int) (a25 a26 : List (List TV)) (a27 : Int) (a28 : List (List TV)) (a29 a30 : Int) (a31 : Bool) (a32 : List (List TV)) (a33 a34 : Int) (a35 : List (List TV)) (a36 a37 : Int) (a38 : List (List TV)) : VT := ⟨[(zz3 a1 a2), zz6, (zz10 a3 a4 a5 a6 a7 a8 a9 a10 a11 a12 a13 a14 a15 a16 a17), (zz11 a18 a19 a20), (zz10 a21 a22 a23 a24 a25 a26 a27 a28 a29 a30 a31 a32 a33 a34 a35), (zz11 a36 a37 a38)], []⟩
abbrev zz13 (a1 : Int) (a2 : List (List TV)) (a3 a4 a5 a6 : Int) (a7 a8 : List (List TV)) (a9 : Int) (a10 : List (List TV)) (a11 a12 : Int) (a13 : Bool) (a14 : List (List TV)) (a15 a16 : Int) (a17 : List (List TV)) (a18 a19 : Int) (a20 : List (List TV)) (a21 a22 a23 a24 : Int) (a25 a26 : List (List TV)) (a27 : Int) (a28 : List (List TV)) (a29 a30 : Int) (a31 : Bool) (a32 : List (List TV)) (a33 a34 : Int) (a35 : List (List TV)) (a36 a37 : Int) (a38 : List (List TV)) : VT := ⟨[zz6, (zz3 a1 a2), (zz10 a3 a4 a5 a6 a7 a8 a9 a10 a11 a12 a13 a14 a15 a16 a17), (zz11 a18 a19 a20), (zz10 a21 a22 a23 a24 a25 a26 a27 a28 a29 a30 a31 a32 a33 a34 a35), (zz11 a36 a37 a38)], []⟩
abbrev zz14 (a1 : Int) (a2 : List (List TV)) : List TV := [zz0, (zz1 a1), (zz2 a2)]
abbrev zz15 (a1 a2 a3 a4 : Int) (a5 a6 : List (List TV)) (a7 : Int) (a8 : List (List TV)) (a9 a10 : Int) (a11 : Bool) (a12 : List (List TV)) (a13 a14 : Int) (a15 : List (List TV)) (a16 a17 : Int) (a18 : List (List TV)) (a19 a20 a21 a22 : Int) (a23 a24 : List (List TV)) (a25 : Int) (a26 : List (List TV)) (a27 a28 : Int) (a29 : Bool) (a30 : List (List TV)) (a31 a32 : Int) (a33 : List (List TV)) (a34 a35 : Int) (a36 : List (List TV)) : VT := ⟨[zz6, zz6, (zz10 a1 a2 a3 a4 a5 a6 a7 a8 a9 a10 a11 a12 a13 a14 a15), (zz11 a16 a17 a18), (zz10 a19 a20 a21 a22 a23 a24 a25 a26 a27 a28 a29 a30 a31 a32 a33), (zz11 a34 a35 a36)], []⟩
abbrev zz16 (a1 a2 a3 a4 : Int) (a5 a6 : List (List TV)) (a7 : Int) (a8 : List (List TV)) (a9 a10 : Int) (a11 : Bool) (a12 : List (List TV)) (a13 a14 : Int) (a15 : List (List TV)) : List TV := [(zz1 a1), (zz1 a2), (zz1 a3), (zz7 a4), (zz8 a5), (zz8 a6), (zz1 a7), (zz2 a8), (zz7 a9), (zz1 a10), (zz9 a11), (zz8 a12), (zz1 a13), (zz1 a14), (zz2 a15)]
abbrev zz17 : List TV := [zz4, zz4, zz5]
abbrev zz18 : TV := (.val (.slice .none 0 0))
abbrev zz19 : TV := (.val (.int .u32 0))
abbrev zz20 : TV := (.val (.bool false))
abbrev zz21 (a1 a2 a3 a4 : Int) (a5 : TV) (a6 a7 : Int) (a8 : List (List TV)) : VO := (.cells [(zz1 a1), (zz1 a2), (zz1 a3), (zz7 a4), a5, zz18, zz4, zz18, zz19, zz4, zz20, zz18, (zz1 a6), (zz1 a7), (zz2 a8)])
abbrev zz22 : VO := (.cells [zz4, zz4, zz4, zz19, zz18, zz18, zz4, zz18, zz19, zz4, zz20, zz18, zz4, zz4, zz18])
abbrev zz23 (a1 : Int) (a2 : List (List TV)) : VO := (.cells [(zz1 a1), (zz2 a2)])
abbrev zz24 (a1 a2 a3 a4 : Int) (a5 a6 : List (List TV)) (a7 : Int) (a8 : List (List TV)) (a9 a10 : Int) (a11 : Bool) (a12 : List (List TV)) (a13 a14 : Int) (a15 : List (List TV)) (a16 a17 a18 a19 : Int) (a20 : TV) (a21 a22 : Int) (a23 : List (List TV)) (a24 : Int) (a25 : List (List TV)) (a26 : List (Nat × Nat × Bool)) : VT := ⟨[(zz10 a1 a2 a3 a4 a5 a6 a7 a8 a9 a10 a11 a12 a13 a14 a15), zz22, (zz21 a16 a17 a18 a19 a20 a21 a22 a23), (zz23 a24 a25)], a26⟩
abbrev zz25 (a1 a2 a3 a4 : Int) (a5 a6 : List (List TV)) (a7 : Int) (a8 : List (List TV)) (a9 a10 : Int) (a11 : Bool) (a12 : List (List TV)) (a13 a14 : Int) (a15 : List (List TV)) (a16 a17 a18 a19 a20 a21 : Int) (a22 : List (List TV)) : VT := ⟨[(zz10 a1 a2 a3 a4 a5 a6 a7 a8 a9 a10 a11 a12 a13 a14 a15), zz22, (.cells [(zz1 a16), (zz1 a17), (zz1 a18), (zz7 a19), zz18, zz18, zz4, zz18, zz19, zz4, zz20, zz18, (zz1 a20), (zz1 a21), (zz2 a22)])], []⟩
abbrev zz26 (a1 a2 : Int) (a3 : List (List TV)) : List TV := [(zz1 a1), (zz1 a2), (zz2 a3)]
abbrev zz27 (a1 : Int) (a2 : List (List TV)) : TV := (.elt [(zz1 a1), (zz2 a2)])
abbrev zz28 (a1 a2 a3 : Int) (a4 : List (List TV)) : VO := (.cells [(zz1 a1), (zz1 a2), (zz7 a3), (zz8 a4)])
abbrev zz29 (a1 a2 a3 : Int) (a4 : List (List TV)) (a5 a6 a7 : Int) (a8 : List (List TV)) : VT := ⟨[(zz28 a1 a2 a3 a4), (zz28 a5 a6 a7 a8)], []⟩
abbrev zz30 : TV := (.ptr 0 0)
abbrev zz31 : TV := (.ptr 1 0)
abbrev zz32 (a1 a2 : Int) : List TV := [zz30, zz31, (zz1 a1), (zz1 a2)]
abbrev zz33 (a1 : Int) : List TV := [zz30, zz31, (zz1 a1), zz4]
abbrev zz34 (a1 : Int) (a2 : List (List TV)) (a3 a4 : Int) (a5 : Bool) : VO := (.cells [(zz1 a1), (zz2 a2), (zz7 a3), (zz1 a4), (zz9 a5)])
abbrev zz35 (a1 : Int) (a2 : List (List TV)) (a3 a4 : Int) (a5 : Bool) (a6 : Int) (a7 : List (List TV)) (a8 a9 : Int) (a10 : Bool) : VT := ⟨[(zz34 a1 a2 a3 a4 a5), (zz34 a6 a7 a8 a9 a10)], []⟩
abbrev zz36 (a1 a2 : Int) (a3 : List (List TV)) (a4 a5 : Int) (a6 : List (List TV)) : VT := ⟨[(zz11 a1 a2 a3), (zz11 a4 a5 a6)], []⟩
abbrev zz37 (a1 : Int) (a2 : List (List TV)) (a3 : Int) (a4 : List (List TV)) : VT := ⟨[zz22, (zz3 a1 a2), (zz3 a3 a4)], []⟩
abbrev zz38 : TV := (.agg [zz4, zz4, zz4, zz19, zz18, zz18, zz4, zz18, zz19, zz4, zz20, zz18, zz4, zz4, zz18])
abbrev zz39 : TV := (.val (.int .i64 2))
abbrev zz40 : VO := (.cells [zz0, zz39, zz18])
abbrev zz41 : TV := (.tup [zz38, (.agg [zz0, zz39, zz18])])
abbrev zz42 (a1 : Int) (a2 : List (List TV)) (a3 : Int) (a4 : List (List TV)) : VT := ⟨[zz22, (zz3 a1 a2), (zz3 a3 a4), zz40], []⟩
abbrev zz43 (a1 : Int) (a2 : List (List TV)) : TV := (.tup [zz38, (.agg [zz0, (zz1 a1), (zz2 a2)])])
abbrev zz44 (a1 : Int) : VO := (.cells [(zz1 a1), zz4, zz4, zz19, zz18, zz18, zz4, zz18, zz19, zz4, zz20, zz18, zz4, zz4, zz18])
abbrev zz45 : TV := (.agg [zz4, zz4, zz18])
abbrev zz46 (a1 : Int) : TV := (.tup [(.agg [(zz1 a1), zz4, zz4, zz19, zz18, zz18, zz4, zz18, zz19, zz4, zz20, zz18, zz4, zz4, zz18]), zz45])
abbrev zz47 (a1 : Int) : VO := (.cells [(zz1 a1), zz4, zz4, zz19, zz18, zz18, zz4, zz18, zz19, zz4, zz20, zz18, zz4, zz4, zz5])
abbrev zz48 (a1 a2 a3 : Int) (a4 : List (List TV)) : VO := (.cells [(zz1 a1), zz4, zz4, zz19, zz18, zz18, zz4, zz18, zz19, zz4, zz20, zz18, (zz1 a2), (zz1 a3), (zz2 a4)])
abbrev zz49 (a1 a2 a3 : Int) (a4 : List (List TV)) : TV := (.tup [(.agg [(zz1 a1), zz4, zz4, zz19, zz18, zz18, zz4, zz18, zz19, zz4, zz20, zz18, (zz1 a2), (zz1 a3), (zz2 a4)]), zz45])
abbrev zz50 (a1 : Int) : VO := (.cells [(zz1 a1), zz4, zz4, zz19, zz18, (.vec 2 [] .none), zz4, zz5, zz19, zz4, zz20, (.vec 2 [] .none), zz4, zz4, zz18])
abbrev zz51 : TV := (.val (.int .i64 3))
abbrev zz52 (a1 : Int) (a2 : List (List TV)) : TV := (.tup [zz38, (.agg [zz51, (zz1 a1), (zz2 a2)])])
abbrev zz53 (a1 : Int) (a2 : List (List TV)) (a3 : Int) (a4 : List (List TV)) (a5 a6 : Int) (a7 : Bool) (a8 : List (List TV)) : VO := (.cells [(zz1 a1), zz4, zz4, zz19, zz18, (zz8 a2), (zz1 a3), (zz2 a4), (zz7 a5), (zz1 a6), (zz9 a7), (zz8 a8), zz4, zz4, zz18])
abbrev zz54 (a1 : Int) (a2 : List (List TV)) (a3 : Int) (a4 : List (List TV)) (a5 a6 : Int) (a7 : Bool) (a8 : List (List TV)) : TV := (.tup [(.agg [(zz1 a1), zz4, zz4, zz19, zz18, (zz8 a2), (zz1 a3), (zz2 a4), (zz7 a5), (zz1 a6), (zz9 a7), (zz8 a8), zz4, zz4, zz18]), zz45])
abbrev zz55 (a1 : Int) : VO := (.cells [(zz1 a1), zz4, zz4, zz19, (.vec 2 [] .none), zz18, zz4, zz18, zz19, zz4, zz20, zz18, zz4, zz4, zz18])
abbrev zz56 (a1 : Int) (a2 : List (List TV)) : VO := (.cells [zz39, (zz1 a1), (zz2 a2)])
abbrev zz57 (a1 : Int) (a2 : List (List TV)) : TV := (.tup [zz38, (.agg [zz39, (zz1 a1), (zz2 a2)])])
abbrev zz58 (a1 a2 a3 a4 : Int) (a5 : List (List TV)) : VO := (.cells [(zz1 a1), (zz1 a2), (zz1 a3), (zz7 a4), (zz8 a5), zz18, zz4, zz18, zz19, zz4, zz20, zz18, zz4, zz4, zz18])
abbrev zz59 (a1 a2 a3 a4 : Int) (a5 : List (List TV)) : TV := (.tup [(.agg [(zz1 a1), (zz1 a2), (zz1 a3), (zz7 a4), (zz8 a5), zz18, zz4, zz18, zz19, zz4, zz20, zz18, zz4, zz4, zz18]), zz45])
abbrev zz60 : VO := (.cells [zz0, zz39, (.row 1 4 0 2)])
abbrev zz61 : TV := (.tup [zz38, (.agg [zz0, zz39, (.row 1 4 0 2)])])
abbrev zz62 : VO := (.cells [zz4, zz4, zz18])
abbrev zz63 (a1 : Int) : TV := (.val (.int .u8 a1))
abbrev zz64 (a1 a2 : Int) : VO := (.row [(zz63 a1), (zz63 a2)])
abbrev zz65 (a1 a2 : Int) : VT := ⟨[zz62, (zz64 a1 a2)], []⟩
abbrev zz66 (a1 : List (List TV)) : TV := (.vec 1 a1 .full)
abbrev zz67 (a1 : List (List TV)) : VO := (.cells [zz0, zz51, (zz66 a1)])
abbrev zz68 : VO := (.cells [zz0, zz39, (.row 1 1 0 2)])
abbrev zz69 (a1 a2 : Int) : VT := ⟨[zz68, (zz64 a1 a2)], []⟩
abbrev zz70 : VO := (.cells [zz0, zz0, zz18])
abbrev zz71 : VT := ⟨[zz70], []⟩
abbrev zz72 : TV := (.tup [zz4, zz4, zz45])
abbrev zz73 : TV := (.val (.int .u8 255))
abbrev zz74 : VO := (.cells [zz73, zz73, zz73, zz73, zz73, zz73, zz73, zz73, zz73, zz73, zz73, zz73, zz73, zz73, zz73, zz73])
abbrev zz75 (a1 a2 : Int) : VT := ⟨[zz62, (zz64 a1 a2), zz74, zz74], []⟩
abbrev zz76 (a1 a2 : Int) : TV := (.tup [(zz1 a1), (zz1 a2), zz45])
abbrev zz77 : List TV := [zz4, (.val (.int .i64 29)), (.val (.int .i64 23)), (.val (.int .i64 21)), (.val (.int .i64 19))]
abbrev zz78 (a1 : List (List TV)) (a2 a3 : Int) (a4 : List (List TV)) : VT := ⟨[(zz67 a1), (zz64 a2 a3), zz74, zz74, (zz67 a4)], []⟩
abbrev zz79 (a1 : List (List TV)) : TV := (.tup [zz4, zz4, (.agg [zz0, zz51, (zz66 a1)])])
abbrev zz80 (a1 a2 : Int) : VT := ⟨[zz68, (zz64 a1 a2), zz74, zz74, zz68], []⟩
abbrev zz81 : TV := (.tup [zz4, zz4, (.agg [zz0, zz39, (.row 1 1 0 2)])])
abbrev zz82 (a1 a2 : Int) : VT := ⟨[zz70, (zz64 a1 a2), zz74, zz74, zz70], []⟩
abbrev zz83 : TV := (.tup [zz4, zz4, (.agg [zz0, zz0, zz18])])
abbrev zz84 (a1 a2 a3 a4 a5 a6 a7 a8 a9 a10 a11 a12 a13 a14 a15 a16 : Int) : TV := (.agg [(zz63 a1), (zz63 a2), (zz63 a3), (zz63 a4), (zz63 a5), (zz63 a6), (zz63 a7), (zz63 a8), (zz63 a9), (zz63 a10), (zz63 a11), (zz63 a12), (zz63 a13), (zz63 a14), (zz63 a15), (zz63 a16)])
abbrev zz85 (a1 : List (List TV)) : VO := (.cells [(zz8 a1), zz4, zz18, zz19, zz4, zz20, zz18])
abbrev zz86 : VO := (.cells [zz51, (.val (.int .i64 10)), zz18])
abbrev zz87 : TV := (.agg [zz18, zz4, zz18, zz19, zz4, zz20, zz18])
abbrev zz88 : TV := (.tup [zz87, (.agg [zz51, (.val (.int .i64 10)), zz18])])
abbrev zz89 (a1 a2 : List (List TV)) : VO := (.cells [(zz8 a1), zz4, zz5, zz19, zz4, zz20, (zz8 a2)])
abbrev zz90 (a1 a2 : List (List TV)) : TV := (.tup [(.agg [(zz8 a1), zz4, zz5, zz19, zz4, zz20, (zz8 a2)]), zz45])
abbrev zz91 : VO := (.cells [zz4, zz5, zz19, zz4, zz20])
abbrev zz92 (a1 : Int) (a2 : List (List TV)) : TV := (.tup [zz87, (.agg [zz51, (zz1 a1), (zz2 a2)])])
abbrev zz93 (a1 : List (List TV)) (a2 : Int) (a3 : List (List TV)) (a4 a5 : Int) (a6 : Bool) (a7 : List (List TV)) : VO := (.cells [(zz8 a1), (zz1 a2), (zz2 a3), (zz7 a4), (zz1 a5), (zz9 a6), (zz8 a7)])
abbrev zz94 (a1 : List (List TV)) (a2 : Int) (a3 : List (List TV)) (a4 a5 : Int) (a6 : Bool) (a7 : List (List TV)) : TV := (.tup [(.agg [(zz8 a1), (zz1 a2), (zz2 a3), (zz7 a4), (zz1 a5), (zz9 a6), (zz8 a7)]), zz45])
abbrev zz95 (a1 : List (List TV)) : VO := (.cells [(.ptr 4 6), (zz2 a1)])
abbrev zz96 : TV := (.ptr 4 0)
abbrev zz97 (a1 : List (List TV)) : VO := (.cells [zz96, (zz2 a1)])
abbrev zz98 (a1 a2 : List (List TV)) : VO := (.cells [(zz8 a1), zz4, zz18, zz19, zz4, zz20, (zz8 a2)])
abbrev zz99 (a1 a2 : List (List TV)) : TV := (.tup [(.agg [(zz8 a1), zz4, zz18, zz19, zz4, zz20, (zz8 a2)]), zz45])
abbrev zz100 : VO := (.cells [(.ptr 2 0)])
abbrev zz101 : VO := (.cells [zz18, zz4, zz18, zz19, zz4, zz20, zz18])
abbrev zz102 : TV := (.agg [zz51, zz0, zz18])
abbrev zz103 : TV := (.tup [zz87, zz102])
abbrev zz104 : VO := (.cells [zz4, zz18, zz19, zz4, zz20])
abbrev zz105 (a1 : List (List TV)) : VO := (.cells [zz51, zz51, (zz66 a1)])
abbrev zz106 (a1 : List TV) : VO := (.cells a1)
abbrev zz107 (a1 : List (List TV)) (a2 : Int) (a3 : List (List TV)) (a4 a5 : Int) (a6 : Bool) (a7 : List TV) (a8 : List (List TV)) : VT := ⟨[zz104, (zz105 a1), zz6, (zz34 a2 a3 a4 a5 a6), (zz106 a7), (zz105 a8)], []⟩
abbrev zz108 (a1 a2 a3 : Int) (a4 : Bool) : VO := (.cells [(zz1 a1), zz18, (zz7 a2), (zz1 a3), (zz9 a4)])
abbrev zz109 (a1 : List (List TV)) (a2 a3 a4 : Int) (a5 : Bool) (a6 : List TV) (a7 : List (List TV)) : VT := ⟨[zz104, (zz105 a1), zz6, (zz108 a2 a3 a4 a5), (zz106 a6), (zz105 a7)], []⟩
abbrev zz110 (a1 : Int) (a2 : TV) (a3 a4 : Int) (a5 : Bool) : VO := (.cells [(zz1 a1), a2, (zz7 a3), (zz1 a4), (zz9 a5)])
abbrev zz111 (a1 : Int) (a2 : TV) (a3 a4 : Int) (a5 : Bool) (a6 : List TV) : VT := ⟨[zz104, zz62, zz6, (zz110 a1 a2 a3 a4 a5), (zz106 a6)], []⟩
abbrev zz112 (a1 : Int) (a2 : List (List TV)) : VO := (.cells [zz51, (zz1 a1), (zz2 a2)])
abbrev zz113 (a1 : Int) : VO := (.cells [zz51, (zz1 a1), zz18])
abbrev zz114 (a1 : VO) (a2 : List TV) (a3 a4 : Int) (a5 : List (List TV)) : VT := ⟨[zz104, zz62, zz6, a1, (zz106 a2), (zz11 a3 a4 a5)], []⟩
abbrev zz115 (a1 : List (List TV)) (a2 a3 : Int) : List TV := [zz30, zz31, (.ptr 3 0), zz96, (.vec 3 a1 .none), (zz1 a2), (zz1 a3)]
abbrev zz116 (a1 : Int) (a2 : TV) (a3 a4 : Int) (a5 : Bool) (a6 : List TV) (a7 a8 : Int) (a9 : List (List TV)) : VT := ⟨[zz104, zz62, zz6, (zz110 a1 a2 a3 a4 a5), (zz106 a6), (zz11 a7 a8 a9)], []⟩
abbrev zz117 : VO := (.cells [zz51, zz0, zz5])
abbrev zz118 : VT := ⟨[zz104, zz117, zz117], []⟩
abbrev zz119 : TV := (.agg [zz4, zz18, zz19, zz4, zz20])
abbrev zz120 : TV := (.tup [zz119, (.agg [zz51, zz0, zz5])])
abbrev zz121 (a1 : Int) (a2 : TV) : TV := (.tup [zz119, (.agg [zz51, (zz1 a1), a2])])
abbrev zz122 (a1 : List (List TV)) (a2 : Int) (a3 : List (List TV)) (a4 a5 : Int) (a6 : Bool) (a7 : List TV) : VT := ⟨[zz104, (zz105 a1), zz6, (zz34 a2 a3 a4 a5 a6), (zz106 a7)], []⟩
abbrev zz123 (a1 a2 a3 : Int) (a4 : Bool) (a5 a6 a7 : Int) (a8 : Bool) (a9 : List TV) : VT := ⟨[(zz108 a1 a2 a3 a4), zz62, zz6, (zz108 a5 a6 a7 a8), (zz106 a9)], []⟩
abbrev zz124 (a1 a2 a3 : Int) (a4 : Bool) : TV := (.tup [(.agg [(zz1 a1), zz18, (zz7 a2), (zz1 a3), (zz9 a4)]), zz45])
abbrev zz125 (a1 : List (List TV)) (a2 a3 a4 : Int) (a5 : Bool) (a6 : List TV) : VT := ⟨[zz104, (zz105 a1), zz6, (zz108 a2 a3 a4 a5), (zz106 a6)], []⟩
abbrev zz126 (a1 : List (List TV)) : TV := (.tup [zz119, (.agg [zz51, zz51, (zz66 a1)])])
abbrev zz127 (a1 : List (List TV)) (a2 : Int) : List TV := [zz30, zz31, (.ptr 3 0), zz96, (.vec 3 a1 .none), (zz1 a2), zz4]
abbrev zz128 : VT := ⟨[zz104, zz62, zz6, zz104, (.cells [zz20, zz20, zz20, zz20, zz20, zz20, zz20, zz20, zz20, zz20, zz20, zz20, zz20, zz20, zz20, zz20, zz20, zz20, zz20, zz20, zz20, zz20, zz20, zz20, zz20, zz20, zz20, zz20, zz20, zz20, zz20, zz20, zz20, zz20, zz20, zz20, zz20, zz20, zz20, zz20, zz20, zz20, zz20, zz20, zz20, zz20, zz20, zz20, zz20, zz20, zz20, zz20, zz20, zz20, zz20, zz20, zz20, zz20, zz20, zz20, zz20, zz20, zz20, zz20, zz20, zz20, zz20, zz20, zz20, zz20, zz20, zz20, zz20, zz20, zz20, zz20, zz20, zz20, zz20, zz20, zz20, zz20, zz20, zz20, zz20, zz20, zz20, zz20, zz20, zz20, zz20, zz20, zz20, zz20, zz20, zz20, zz20, zz20, zz20, zz20, zz20, zz20, zz20, zz20, zz20, zz20, zz20, zz20, zz20, zz20, zz20, zz20, zz20, zz20, zz20, zz20, zz20, zz20, zz20, zz20, zz20, zz20, zz20, zz20, zz20, zz20, zz20, zz20, zz20, zz20, zz20, zz20, zz20, zz20, zz20, zz20, zz20, zz20, zz20, zz20, zz20, zz20, zz20, zz20, zz20, zz20, zz20, zz20, zz20, zz20, zz20, zz20, zz20, zz20, zz20, zz20, zz20, zz20, zz20, zz20, zz20, zz20, zz20, zz20, zz20, zz20, zz20, zz20, zz20, zz20, zz20, zz20, zz20, zz20, zz20, zz20, zz20, zz20, zz20, zz20, zz20, zz20, zz20, zz20, zz20, zz20, zz20, zz20, zz20, zz20, zz20, zz20, zz20, zz20, zz20, zz20, zz20, zz20, zz20, zz20, zz20, zz20, zz20, zz20, zz20, zz20, zz20, zz20, zz20, zz20, zz20, zz20, zz20, zz20, zz20, zz20, zz20, zz20, zz20, zz20, zz20, zz20, zz20, zz20, zz20, zz20, zz20, zz20, zz20, zz20, zz20, zz20, zz20, zz20, zz20, zz20, zz20, zz20, zz20, zz20, zz20, zz20, zz20, zz20, zz20, zz20, zz20, zz20, zz20, zz20, zz20, zz20, zz20, zz20, zz20, zz20])], []⟩
abbrev zz129 (a1 a2 : Int) (a3 : List (List TV)) (a4 : VO) (a5 : List TV) : VT := ⟨[(zz11 a1 a2 a3), a4, (.row a5)], []⟩
abbrev zz130 (a1 a2 : Int) (a3 : List (List TV)) (a4 a5 a6 : VO) (a7 : List TV) : VT := ⟨[(zz11 a1 a2 a3), a4, a5, a6, (.row a7)], []⟩
abbrev zz131 (a1 a2 : Nat) : TV := (.row 1 a1 0 a2)
abbrev zz132 (a1 : Int) : VO := (.row [(zz63 a1)])
abbrev zz133 : TV := (.val (.bool true))
abbrev zz134 (a1 : Int) (a2 : TV) (a3 a4 a5 a6 : Int) (a7 : List (List TV)) : VT := ⟨[(.cells [(zz1 a1), a2, (zz7 a3), (zz1 a4), zz133]), (zz11 a5 a6 a7)], []⟩
abbrev zz135 (a1 : Int) (a2 : List (List TV)) (a3 a4 : Int) (a5 : Bool) (a6 a7 : Int) (a8 : List (List TV)) : VT := ⟨[(zz34 a1 a2 a3 a4 a5), (zz11 a6 a7 a8)], []⟩
abbrev zz136 (a1 : Int) (a2 : TV) (a3 a4 : Int) (a5 : Bool) (a6 a7 : Int) (a8 : List (List TV)) : VT := ⟨[(zz110 a1 a2 a3 a4 a5), (zz11 a6 a7 a8)], []⟩
abbrev zz137 : TV := (.val (.int .i64 8))
abbrev zz138 : VO := (.cells [zz30])
abbrev zz139 : TV := (.val (.int .i64 64))
abbrev zz140 : TV := (.val (.int .i64 4))
abbrev zz141 (a1 : TV) : VO := (.cells [zz139, zz140, a1])
abbrev zz142 (a1 : Int) (a2 : TV) (a3 a4 : Int) (a5 : Bool) (a6 a7 : Int) (a8 : List (List TV)) (a9 a10 : TV) : VT := ⟨[(zz110 a1 a2 a3 a4 a5), (zz11 a6 a7 a8), zz138, (zz141 a9), (zz141 a10)], []⟩
abbrev zz143 : TV := (.val (.int .i64 6))
abbrev zz144 (a1 : TV) : VO := (.cells [zz139, zz0, a1])
abbrev zz145 (a1 : Int) (a2 : TV) (a3 a4 : Int) (a5 : Bool) (a6 a7 : Int) (a8 : List (List TV)) (a9 a10 : TV) : VT := ⟨[(zz110 a1 a2 a3 a4 a5), (zz11 a6 a7 a8), zz138, (zz144 a9), (zz144 a10)], []⟩
abbrev zz146 (a1 : TV) : VO := (.cells [zz4, zz4, a1])
abbrev zz147 (a1 : TV) : VO := (.cells [(.val (.int .i64 128)), zz140, a1])
abbrev zz148 : TV := (.val (.int .i64 11))
abbrev zz149 (a1 : TV) : VO := (.cells [zz139, zz4, a1])
abbrev zz150 : TV := (.val (.int .i64 5))
abbrev zz151 (a1 a2 : Int) : VO := (.cells [(zz1 a1), (zz1 a2), zz5])
abbrev zz152 (a1 : List (List TV)) (a2 : Nat) : TV := (.vec 1 a1 (.tail 0 a2))
abbrev zz153 (a1 : List (List TV)) (a2 : Nat) (a3 : Int) : List TV := [zz18, zz20, zz30, (zz152 a1 a2), (zz1 a3)]
abbrev zz154 : List TV := [zz18, zz20, zz30, (.vec 1 [] (.tail 0 0))]
abbrev zz155 (a1 : List (List TV)) (a2 : Nat) (a3 : Int) : List TV := [zz18, zz20, zz30, (zz152 a1 a2), (zz1 a3), zz4]
abbrev zz156 (a1 : List (List TV)) (a2 : Nat) : List TV := [zz18, zz20, zz30, (zz152 a1 a2)]
abbrev zz157 (a1 : List (List TV)) (a2 a3 : Int) (a4 : List (List TV)) (a5 a6 : Int) : List TV := [(zz2 a1), (zz1 a2), (zz1 a3), (zz2 a4), (zz1 a5), (zz1 a6)]
abbrev zz158 : VO := (.cells [zz51, zz0, zz18])
abbrev zz159 (a1 : List (List TV)) (a2 : Nat) : TV := (.vec 3 a1 (.tail 0 a2))
abbrev zz160 (a1 : List (List TV)) (a2 : Nat) : List TV := [zz18, zz30, zz31, (zz159 a1 a2)]
abbrev zz161 : TV := (.tup [zz18, zz102])
abbrev zz162 : List TV := [zz18, zz30, zz31, (.vec 3 [] (.tail 0 0))]
abbrev zz163 (a1 a2 a3 : Int) : TV := (.tup [(.agg [(zz1 a1), (zz1 a2), (zz7 a3), zz18]), zz45])
abbrev zz164 : VO := (.cells [zz4, zz4, zz19, zz18])
abbrev zz165 : VO := (.cells [zz39, zz4, zz18])
abbrev zz166 : VT := ⟨[zz164, zz165], []⟩
abbrev zz167 : List TV := [zz30, zz31, (.ptr 2 0), (.ptr 3 0)]
abbrev zz168 (a1 : List (List TV)) (a2 : Nat) : TV := (.vec 2 a1 (.tail 0 a2))
abbrev zz169 (a1 a2 a3 : Int) (a4 : List (List TV)) (a5 : Nat) : VO := (.cells [(zz1 a1), (zz1 a2), (zz7 a3), (zz168 a4 a5)])
abbrev zz170 (a1 a2 a3 : Int) (a4 : TV) : VO := (.cells [(zz1 a1), (zz1 a2), (zz7 a3), a4])
abbrev zz171 : List TV := [zz30, zz31, (.ptr 2 0), (.ptr 3 0), zz96]
abbrev zz172 : VO := (.cells [zz39, zz143, zz18])
abbrev zz173 : TV := (.agg [zz4, zz4, zz19, zz18])
abbrev zz174 : TV := (.tup [zz173, (.agg [zz39, zz143, zz18])])
abbrev zz175 (a1 : Int) : VO := (.cells [zz39, (zz1 a1), zz18])
abbrev zz176 (a1 : Int) : TV := (.tup [zz173, (.agg [zz39, (zz1 a1), zz18])])
abbrev zz177 (a1 a2 a3 : Int) (a4 : List (List TV)) : TV := (.tup [(.agg [(zz1 a1), (zz1 a2), (zz7 a3), (zz8 a4)]), zz45])
abbrev zz178 : VO := (.cells [zz39, zz51, zz18])
abbrev zz179 : TV := (.tup [zz173, (.agg [zz39, zz51, zz18])])
abbrev zz180 (a1 a2 a3 : Int) : VO := (.cells [(zz1 a1), (zz1 a2), (zz7 a3), zz18])
abbrev zz181 : VO := (.cells [zz39, zz39, zz18])
abbrev zz182 : TV := (.tup [zz173, (.agg [zz39, zz39, zz18])])
abbrev zz183 (a1 : List (List TV)) : VO := (.cells [zz39, zz0, (zz66 a1)])
abbrev zz184 (a1 : List (List TV)) : TV := (.tup [zz173, (.agg [zz39, zz0, (zz66 a1)])])
abbrev zz185 : TV := (.tup [zz173, (.agg [zz39, zz4, zz18])])
abbrev zz186 (a1 : List (List TV)) (a2 : Nat) : List TV := [zz30, zz18, zz4, zz20, (zz168 a1 a2)]
abbrev zz187 : TV := (.vec 2 [] (.tail 0 0))
abbrev zz188 : List TV := [zz30, zz18, zz4, zz20, zz187]
abbrev zz189 (a1 a2 : Int) (a3 : List (List TV)) (a4 a5 : Int) (a6 : List (List TV)) : VT := ⟨[zz62, (zz11 a1 a2 a3), (zz11 a4 a5 a6)], []⟩
abbrev zz190 : VT := ⟨[zz62], []⟩
abbrev zz191 : TV := (.tup [zz45, zz20])
abbrev zz192 (a1 : List (List TV)) (a2 : Nat) : List TV := [zz18, zz20, zz30, (zz168 a1 a2)]
abbrev zz193 : TV := (.tup [zz18, zz20])
abbrev zz194 : List TV := [zz18, zz20, zz30, zz187]
abbrev zz195 : TV := (.val (.int .u8 0))
abbrev zz196 (a1 : Int) : VO := (.cells [(zz63 a1), zz195, zz195, zz195])
abbrev zz197 (a1 : Int) : List TV := [(zz63 a1)]
abbrev zz198 (a1 a2 : Int) : TV := (.agg [(zz7 a1), (zz1 a2)])
abbrev zz199 (a1 a2 : Int) : TV := (.tup [(zz198 a1 a2), zz133])
abbrev zz200 : VO := (.cells [zz195, zz195, zz195, zz195])
abbrev zz201 : VO := (.cells [zz19, zz4])
abbrev zz202 : TV := (.tup [(.agg [zz19, zz4]), zz20])
abbrev zz203 (a1 a2 : Int) : VO := (.cells [(zz7 a1), (zz1 a2)])
abbrev zz204 : TV := (.val (.int .u64 0))
abbrev zz205 (a1 : Int) : TV := (.val (.int .u64 a1))
abbrev zz206 (a1 : Int) (a2 : List (List TV)) (a3 a4 : Int) : List TV := [(zz205 a1), (zz2 a2), (zz1 a3), (zz1 a4)]
abbrev zz207 (a1 : Int) : TV := (.elt [(zz63 a1)])
abbrev zz208 (a1 : List (List TV)) (a2 : Int) : List TV := [zz204, (zz2 a1), (zz1 a2), zz4]
abbrev zz209 (a1 : VO) : VT := ⟨[a1], []⟩
abbrev zz210 : TV := (.vec 1 [] .full)
abbrev zz211 : VT := ⟨[], []⟩
abbrev k6 (a b : Int) : Bool := keyEq (Value.int IntKind.i64 a) (Value.int IntKind.i64 b)
end Go.Proofs.YtogbdjlelkepcaaGreatDoor
namespace Go.Proofs.YtogbdjlelkepcaaGreatDoor
open Go.RowKit

def noGl : Globs := fun _ => none
def noSp : FuncId → Option Spec := fun _ => none
def noLp : Nat → Option (LSpec × Code) := fun _ => none

abbrev clF := 41
abbrev wRdF := 71
abbrev wTkF := 115
abbrev wNmF := 111
abbrev wByF := 80
abbrev wSuF := 113
abbrev wLeF := 76
abbrev wErF := 82
abbrev wReF := 81
abbrev wU8F := 72
abbrev wU16F := 73
abbrev wU32F := 74
abbrev wGeF := 69
abbrev wG32F := 139
abbrev rByF := 92
abbrev rNmF := 121
abbrev rGeF := 142
abbrev rRdF := 86
abbrev rU8F := 87
abbrev rU16F := 88
abbrev rU32F := 89
abbrev rSuF := 91
abbrev rLeF := 90
abbrev rReF := 93
def tl1 (T : VT) (n : Nat) : VT := { T with tails := [(n, 1, false)] }
def cloneW : Spec := fun _ ys T K => match ys with
 | [.vec 1 b _] => IsB b ∧ K (.vec 1 b .none) T
 | _ => False
def geK : List Nat := [5, 10, 11, 12]
def geV (b : Bs) (n j : Int) : List TV := [.val (.int .u64 n), .vec 1 b .none, .val (.int .i64 b.length), .val (.int .i64 j)]
def geL (b : Bs) (n : Int) (c0 : Code) : Nat → Option (LSpec × Code) := specsL [(0, loopL 23 geK [] (geV b 0 0) ⟨[], []⟩ fun K => K .normal (slotsN 23 geK (geV b n b.length)) ⟨[], []⟩ [], c0)]
def wTkW : Spec := fun ro ys T K => match ys with
 | [.ptr k 0, .val (.int .i64 n)] => match T.objs[k]? with
  | some (.cells [.val (.bool true), .vec 1 b .none, .val (.int .i64 a), .val (.int .i64 e)]) => (Nat.ble ro k = true ∧ IsB b) ∧ K (.vec 1 (tkB n b e) .none) { T with objs := T.objs.set k (srcO (tkR n b e) (tkA n b e a) (tkE n b e)) }
  | _ => False
 | _ => False
def getW : Spec := fun _ ys T K => match ys with
 | [.vec 1 b _, .val (.int .i64 n)] => (IsB b ∧ SmN n ∧ LeN n b) ∧ K (.val (.int .u64 (geN n b))) T
 | _ => False
def wNmW : Spec := fun ro ys T K => match ys with
 | [.ptr k 0, .val (.int .i64 n)] => match T.objs[k]? with
  | some (.cells [.val (.bool true), .vec 1 b .none, .val (.int .i64 a), .val (.int .i64 e)]) => (Nat.ble ro k = true ∧ IsB b ∧ SmN n) ∧ K (.val (.int .u64 (nmI n b e))) { T with objs := T.objs.set k (srcO (tkR n b e) (tkA n b e a) (tkE n b e)) }
  | _ => False
 | _ => False
def rgK : List Nat := [8, 32, 33, 34]
def rgL (b : Bs) (n : Int) (c0 : Code) : Nat → Option (LSpec × Code) := specsL [(0, loopL 45 rgK [] (geV b 0 0) ⟨[], []⟩ fun K => K .normal (slotsN 45 rgK (geV b n b.length)) ⟨[], []⟩ [], c0)]
def rgetW : Spec := fun _ ys T K => match ys with
 | [.vec 1 b _, .val (.int .i64 a), .val (.int .i64 n)] => (IsB b ∧ SmB b ∧ SmN n ∧ a = 0) ∧ K (.tup [.val (.int .u64 (rgV n b)), .val (.bool (rgO n b))]) T
 | _ => False
def rNmW : Spec := fun ro ys T K => match ys with
 | [.ptr j 0, .val (.int .i64 m)] => match T.objs[j]? with
  | some (.cells [.vec 1 B .none, .val (.int .i64 n), .val (.int .i64 e)]) => (Nat.ble ro j = true ∧ IsB B ∧ InB B n ∧ SmN m) ∧ K (.val (.int .u64 (nmI m (remB B n) e))) { T with objs := T.objs.set j (rsO B (tkN m B n e) (tkE m (remB B n) e)) }
  | _ => False
 | _ => False
theorem ev_cl0 (Q : TV → VT → Prop) : vcallF Tryz.prog noGl noSp noOra 300 noLp 0 clF [.vec 1 [] .none] zz211 Q =
 (Q zz18 zz211 ∧
 Q zz210 zz211) := by kernel_rfl
theorem ev_cl1 (r : List TV) (b : Bs) (Q : TV → VT → Prop) : vcallF Tryz.prog noGl noSp (tellS [(999998, .dead, none), (7, .vec 1 (r :: b) (.tail 0 (b.length + 1)), some fun T => tl1 T (b.length + 1))]) 300 noLp 0 clF [.vec 1 (r :: b) .none] zz211 Q =
 (OTurn Tryz.prog (fun _ => .none) 0 zz211 (.call ⟨(.builtin .append), #[(.tmp 5), (.tmp 6)], #[22, 22]⟩) [(5, zz210), (6, (zz2 ([(r)] ++ b)))] (zz152 ([(r)] ++ b) (List.length b + (1 : Nat))) ⟨[], [((List.length b + (1 : Nat)), (1, false))]⟩ ∧
 Q (zz152 ([(r)] ++ b) (List.length b + (1 : Nat))) ⟨[], [((List.length b + (1 : Nat)), (1, false))]⟩) := by kernel_rfl
theorem ev_wrd (b : Bs) (Q : TV → VT → Prop) : vcallF Tryz.prog noGl (specs [(clF, cloneW)]) noOra 300 noLp 0 wRdF [.vec 1 b .none] zz211 Q =
 (IsB (b) ∧
 Q zz30 ⟨[(.cells [zz133, (zz2 b), zz4, zz4])], []⟩) := by kernel_rfl
theorem ev_wtk (b : Bs) (a e n : Int) (k : Nat) (Q : TV → VT → Prop) : vcallF Tryz.prog noGl noSp (tellS [(999998, .dead, none), (32, .vec 1 (b.take k) .none, none), (40, .vec 1 (b.drop k) .none, none)]) 300 noLp 0 wTkF [.ptr 0 0, .val (.int .i64 n)] (zz209 (srcO b a e)) Q =
 (bif !eqRes BinOp.eql (k6 e (0 : Int))
 then Q zz18 ⟨[(.cells [zz133, (zz2 b), (zz1 a), (zz1 e)])], []⟩
 else (bif decide (n < (0 : Int))
 then Q zz18 ⟨[(.cells [zz133, (zz2 b), (zz1 a), zz39])], []⟩
 else (bif decide (n > (↑(List.length b) : Int))
 then Q zz18 ⟨[(.cells [zz133, (zz2 b), (zz1 a), zz51])], []⟩
 else (OPure Tryz.prog (fun _ => .none) (.slice 22 (.tmp 29) .none (.some (.tmp 30)) (.some (.tmp 31))) [(29, (zz2 b)), (30, (zz1 n)), (31, (zz1 n))] (zz2 (List.take k b)) ∧
 (OPure Tryz.prog (fun _ => .none) (.slice 22 (.tmp 38) (.some (.tmp 39)) .none .none) [(38, (zz2 b)), (39, (zz1 n))] (zz2 (List.drop k b)) ∧
 Q (zz2 (List.take k b)) ⟨[(.cells [zz133, (zz2 (List.drop k b)), (zz1 (IntKind.wrap IntKind.i64 (a + n))), (zz1 e)])], []⟩))))) := by kernel_rfl
theorem ev_wge (b c : Bs) (n m : Int) (Q : TV → VT → Prop) : vcallF Tryz.prog noGl noSp (tellS [(999998, .dead, none), (10, .vec 1 c .none, none)]) 300 (geL c m (codeAt Tryz.prog wGeF 0)) 0 wGeF [.vec 1 b .none, .val (.int .i64 n)] zz211 Q =
 (OPure Tryz.prog (fun _ => .none) (.slice 22 (.tmp 8) .none (.some (.tmp 9)) .none) [(8, (zz2 b)), (9, (zz1 n))] (zz2 c) ∧
 ((codeAt Tryz.prog wGeF (0 : Nat) = codeAt Tryz.prog wGeF (0 : Nat)) ∧
 (((@Eq (Option Nat) .none .none) ∧
 ((@Eq (Nat) 0 0) ∧
 ((@Eq (List Nat) [] []) ∧
 (True  ∧
 ((@Eq (VT) zz211 zz211) ∧
 ((@Eq (Bool) true true) ∧
 (@Eq (List TV) (zz208 c (↑(List.length c) : Int)) (zz208 c (↑(List.length c) : Int))))))))) ∧
 Q (zz205 m) zz211))) := by kernel_rfl
theorem ev_wgeA (b : Bs) (n z : Int) (j : Nat) (Q : Exit → List TV → VT → List Nat → Nat → Prop) : vx Tryz.prog noGl noSp (tellS [(999998, .dead, none), (14, .elt (bT z), none)]) 300 noLp none 0 (loopAt Tryz.prog wGeF 0) (slotsN 23 geK (geV b n j)) zz211 [] (pickS geK Q) =
 (bif decide ((↑j : Int) < (↑(List.length b) : Int))
 then (OPure Tryz.prog (fun _ => .none) (.indexAddr 22 (.tmp 10) (.tmp 12)) [(10, (zz2 b)), (12, (zz1 (↑j : Int)))] (zz207 z) ∧
 Q .normal (zz206 (IntKind.wrap IntKind.u64 (↑(BitVec.toNat (BitVec.ofInt (IntKind.bits IntKind.u64) (IntKind.wrap IntKind.u64 (n * (2 : Int) ^ min (Int.toNat (8 : Int)) (IntKind.bits IntKind.u64))) ||| BitVec.ofInt (IntKind.bits IntKind.u64) (IntKind.wrap IntKind.u64 z))) : Int)) b (↑(List.length b) : Int) (IntKind.wrap IntKind.i64 ((↑j : Int) + (1 : Int)))) zz211 [] 23)
 else Q (.exit 0) (zz206 n b (↑(List.length b) : Int) (↑j : Int)) zz211 [] 23) := by kernel_rfl
theorem ev_wnm (b : Bs) (a e n : Int) (Q : TV → VT → Prop) : vcallF Tryz.prog noGl (specs [(wTkF, wTkW), (wGeF, getW)]) noOra 300 noLp 0 wNmF [.ptr 0 0, .val (.int .i64 n)] (zz209 (srcO b a e)) Q =
 (((@Eq (Bool) true true) ∧
 IsB (b)) ∧
 (bif decide ((↑(List.length (tkB n b e)) : Int) < n)
 then Q zz204 ⟨[(.cells [zz133, (zz2 (tkR n b e)), (zz1 (tkA n b e a)), (zz1 (tkE n b e))])], []⟩
 else ((IsB (tkB n b e) ∧
 (SmN (n) ∧
 LeN (n) (tkB n b e))) ∧
 Q (zz205 (geN n (tkB n b e))) ⟨[(.cells [zz133, (zz2 (tkR n b e)), (zz1 (tkA n b e a)), (zz1 (tkE n b e))])], []⟩))) := by kernel_rfl
theorem ev_wby (b : Bs) (a e n : Int) (Q : TV → VT → Prop) : vcallF Tryz.prog noGl (specs [(wTkF, wTkW), (clF, cloneW)]) noOra 300 noLp 0 wByF [.ptr 0 0, .val (.int .i64 n)] (zz209 (srcO b a e)) Q =
 (((@Eq (Bool) true true) ∧
 IsB (b)) ∧
 (IsB (tkB n b e) ∧
 Q (zz2 (tkB n b e)) ⟨[(.cells [zz133, (zz2 (tkR n b e)), (zz1 (tkA n b e a)), (zz1 (tkE n b e))])], []⟩)) := by kernel_rfl
theorem ev_wsu (b : Bs) (a e n : Int) (Q : TV → VT → Prop) : vcallF Tryz.prog noGl (specs [(wTkF, wTkW), (wRdF, sreadW)]) noOra 300 noLp 0 wSuF [.ptr 0 0, .val (.int .i64 n)] (zz209 (srcO b a e)) Q =
 (((@Eq (Bool) true true) ∧
 IsB (b)) ∧
 (IsB (tkB n b e) ∧
 Q zz31 ⟨[(.cells [zz133, (zz2 (tkR n b e)), (zz1 (tkA n b e a)), (zz1 (tkE n b e))]), (.cells [zz133, (zz2 (tkB n b e)), zz4, zz4])], []⟩)) := by kernel_rfl
theorem ev_wle (b : Bs) (a e : Int) (Q : TV → VT → Prop) : vcallF Tryz.prog noGl noSp noOra 300 noLp 0 wLeF [.ptr 0 0] (zz209 (srcO b a e)) Q =
 (bif !eqRes BinOp.eql (k6 e (0 : Int))
 then Q zz4 ⟨[(.cells [zz133, (zz2 b), (zz1 a), (zz1 e)])], []⟩
 else Q (zz1 (↑(List.length b) : Int)) ⟨[(.cells [zz133, (zz2 b), (zz1 a), (zz1 e)])], []⟩) := by kernel_rfl
theorem ev_wer (b : Bs) (a e : Int) (Q : TV → VT → Prop) : vcallF Tryz.prog noGl noSp noOra 300 noLp 0 wErF [.ptr 0 0] (zz209 (srcO b a e)) Q =
Q (zz1 e) ⟨[(.cells [zz133, (zz2 b), (zz1 a), (zz1 e)])], []⟩ := by kernel_rfl
theorem ev_wre (b : Bs) (a e : Int) (Q : TV → VT → Prop) : vcallF Tryz.prog noGl (specs [(wLeF, slW), (wByF, sbW)]) noOra 300 noLp 0 wReF [.ptr 0 0] (zz209 (srcO b a e)) Q =
 (((@Eq (Bool) true true) ∧
 IsB (b)) ∧
 (((@Eq (Bool) true true) ∧
 IsB (b)) ∧
 Q (zz2 (tkB (leB b e) b e)) ⟨[(.cells [zz133, (zz2 (tkR (leB b e) b e)), (zz1 (tkA (leB b e) b e a)), (zz1 (tkE (leB b e) b e))])], []⟩)) := by kernel_rfl
theorem ev_wu8 (b : Bs) (a e : Int) (Q : TV → VT → Prop) : vcallF Tryz.prog noGl (specs [(wNmF, wNmW)]) noOra 300 noLp 0 wU8F [.ptr 0 0] (zz209 (srcO b a e)) Q =
 (((@Eq (Bool) true true) ∧
 (IsB (b) ∧
 SmN 1)) ∧
 Q (zz1 (IntKind.wrap IntKind.i64 (nmI (1 : Int) b e))) ⟨[(.cells [zz133, (zz2 (tkR (1 : Int) b e)), (zz1 (tkA (1 : Int) b e a)), (zz1 (tkE (1 : Int) b e))])], []⟩) := by kernel_rfl
theorem ev_wu16 (b : Bs) (a e : Int) (Q : TV → VT → Prop) : vcallF Tryz.prog noGl (specs [(wNmF, wNmW)]) noOra 300 noLp 0 wU16F [.ptr 0 0] (zz209 (srcO b a e)) Q =
 (((@Eq (Bool) true true) ∧
 (IsB (b) ∧
 SmN 2)) ∧
 Q (zz1 (IntKind.wrap IntKind.i64 (nmI (2 : Int) b e))) ⟨[(.cells [zz133, (zz2 (tkR (2 : Int) b e)), (zz1 (tkA (2 : Int) b e a)), (zz1 (tkE (2 : Int) b e))])], []⟩) := by kernel_rfl
theorem ev_wu32 (b : Bs) (a e : Int) (Q : TV → VT → Prop) : vcallF Tryz.prog noGl (specs [(wNmF, wNmW)]) noOra 300 noLp 0 wU32F [.ptr 0 0] (zz209 (srcO b a e)) Q =
 (((@Eq (Bool) true true) ∧
 (IsB (b) ∧
 SmN 4)) ∧
 Q (zz7 (IntKind.wrap IntKind.u32 (nmI (4 : Int) b e))) ⟨[(.cells [zz133, (zz2 (tkR (4 : Int) b e)), (zz1 (tkA (4 : Int) b e a)), (zz1 (tkE (4 : Int) b e))])], []⟩) := by kernel_rfl
theorem ev_wg32 (b : Bs) (Q : TV → VT → Prop) : vcallF Tryz.prog noGl (specs [(wGeF, getW)]) (tellS [(999998, .dead, none), (12, .vec 1 b .none, none)]) 300 noLp 0 wG32F [.vec 1 b .none, .val (.int .i64 0)] zz211 Q =
 (bif !decide ((0 : Int) ≤ IntKind.wrap IntKind.i64 ((↑(List.length b) : Int) - (4 : Int)))
 then Q (.tup [zz19, zz20]) zz211
 else (OPure Tryz.prog (fun _ => .none) (.slice 22 (.tmp 10) (.some (.tmp 11)) .none .none) [(10, (zz2 b)), (11, zz4)] (zz2 b) ∧
 ((IsB (b) ∧
 (SmN 4 ∧
 LeN 4 (b))) ∧
 Q (.tup [(zz7 (IntKind.wrap IntKind.u32 (geN (4 : Int) b))), zz133]) zz211))) := by kernel_rfl
theorem ev_rby (B : Bs) (n e m : Int) (k : Nat) (Q : TV → VT → Prop) : vcallF Tryz.prog noGl noSp (tellS [(999998, .dead, none), (46, .vec 1 ((remB B n).take k) .none, none), (47, .vec 1 ((remB B n).take k) (.tail 0 ((remB B n).take k).length), some fun T => tl1 T ((remB B n).take k).length)]) 300 noLp 0 rByF [.ptr 0 0, .val (.int .i64 m)] (zz209 (rsO B n e)) Q =
 (bif eqRes BinOp.neq (k6 e (0 : Int))
 then Q zz18 ⟨[(.cells [(zz2 B), (zz1 n), (zz1 e)])], []⟩
 else (bif decide (m < (0 : Int))
 then Q zz18 ⟨[(.cells [(zz2 B), (zz1 n), zz39])], []⟩
 else (bif decide (m > IntKind.wrap IntKind.i64 ((↑(List.length B) : Int) - n))
 then Q zz18 ⟨[(.cells [(zz2 B), (zz1 n), zz51])], []⟩
 else (OPure Tryz.prog (fun _ => .none) (.slice 22 (.tmp 35) (.some (.tmp 39)) (.some (.tmp 45)) .none) [(35, (zz2 B)), (39, (zz1 n)), (45, (zz1 (IntKind.wrap IntKind.i64 (n + m))))] (zz2 (List.take k (remB B n))) ∧
 (OTurn Tryz.prog (fun _ => .none) 0 ⟨[(.cells [(zz2 B), (zz1 n), (zz1 e)])], []⟩ (.call ⟨(.builtin .append), #[(.tmp 31), (.tmp 46)], #[22, 22]⟩) [(31, zz210), (46, (zz2 (List.take k (remB B n))))] (zz152 (List.take k (remB B n)) (List.length (List.take k (remB B n)))) ⟨[(.cells [(zz2 B), (zz1 n), (zz1 e)])], [((List.length (List.take k (remB B n))), (1, false))]⟩ ∧
 Q (zz152 (List.take k (remB B n)) (List.length (List.take k (remB B n)))) ⟨[(.cells [(zz2 B), (zz1 (IntKind.wrap IntKind.i64 (n + m))), (zz1 e)])], [((List.length (List.take k (remB B n))), (1, false))]⟩))))) := by kernel_rfl
theorem ev_rge (b c : Bs) (n m : Int) (Q : TV → VT → Prop) : vcallF Tryz.prog noGl noSp (tellS [(999998, .dead, none), (32, .vec 1 c .none, none)]) 300 (rgL c m (codeAt Tryz.prog rGeF 0)) 0 rGeF [.vec 1 b .none, .val (.int .i64 0), .val (.int .i64 n)] zz211 Q =
 (bif decide (IntKind.wrap IntKind.i64 ((↑(List.length b) : Int) - (0 : Int)) < n)
 then Q (.tup [zz204, zz20]) zz211
 else (OPure Tryz.prog (fun _ => .none) (.slice 22 (.tmp 27) (.some (.tmp 28)) (.some (.tmp 31)) .none) [(27, (zz2 b)), (28, zz4), (31, (zz1 (IntKind.wrap IntKind.i64 ((0 : Int) + n))))] (zz2 c) ∧
 ((codeAt Tryz.prog rGeF (0 : Nat) = codeAt Tryz.prog rGeF (0 : Nat)) ∧
 (((@Eq (Option Nat) .none .none) ∧
 ((@Eq (Nat) 0 0) ∧
 ((@Eq (List Nat) [] []) ∧
 (True  ∧
 ((@Eq (VT) zz211 zz211) ∧
 ((@Eq (Bool) true true) ∧
 (@Eq (List TV) (zz208 c (↑(List.length c) : Int)) (zz208 c (↑(List.length c) : Int))))))))) ∧
 Q (.tup [(zz205 m), zz133]) zz211)))) := by kernel_rfl
theorem ev_rgeA (b : Bs) (n z : Int) (j : Nat) (Q : Exit → List TV → VT → List Nat → Nat → Prop) : vx Tryz.prog noGl noSp (tellS [(999998, .dead, none), (36, .elt (bT z), none)]) 300 noLp none 0 (loopAt Tryz.prog rGeF 0) (slotsN 45 rgK (geV b n j)) zz211 [] (pickS rgK Q) =
 (bif decide ((↑j : Int) < (↑(List.length b) : Int))
 then (OPure Tryz.prog (fun _ => .none) (.indexAddr 22 (.tmp 32) (.tmp 34)) [(32, (zz2 b)), (34, (zz1 (↑j : Int)))] (zz207 z) ∧
 Q .normal (zz206 (IntKind.wrap IntKind.u64 (↑(BitVec.toNat (BitVec.ofInt (IntKind.bits IntKind.u64) (IntKind.wrap IntKind.u64 (n * (2 : Int) ^ min (Int.toNat (8 : Int)) (IntKind.bits IntKind.u64))) ||| BitVec.ofInt (IntKind.bits IntKind.u64) (IntKind.wrap IntKind.u64 z))) : Int)) b (↑(List.length b) : Int) (IntKind.wrap IntKind.i64 ((↑j : Int) + (1 : Int)))) zz211 [] 45)
 else Q (.exit 0) (zz206 n b (↑(List.length b) : Int) (↑j : Int)) zz211 [] 45) := by kernel_rfl
theorem ev_rrd (b : Bs) (Q : TV → VT → Prop) : vcallF Tryz.prog noGl noSp (tellS [(999998, .dead, none), (5, .vec 1 b (.tail 0 b.length), some fun T => tl1 T b.length)]) 300 noLp 0 rRdF [.vec 1 b .none] zz211 Q =
 (OTurn Tryz.prog (fun _ => .none) 0 zz211 (.call ⟨(.builtin .append), #[(.tmp 3), (.tmp 4)], #[22, 22]⟩) [(3, zz210), (4, (zz2 b))] (zz152 b (List.length b)) ⟨[], [((List.length b), (1, false))]⟩ ∧
 Q zz30 ⟨[(.cells [(zz152 b (List.length b)), zz4, zz4])], [((List.length b), (1, false))]⟩) := by kernel_rfl
theorem ev_rnm (B : Bs) (n e m : Int) (Q : TV → VT → Prop) : vcallF Tryz.prog noGl (specs [(rByF, rbW), (rGeF, rgetW)]) noOra 300 noLp 0 rNmF [.ptr 0 0, .val (.int .i64 m)] (zz209 (rsO B n e)) Q =
 (((@Eq (Bool) true true) ∧
 (IsB (B) ∧
 InB (B) (n))) ∧
 ((IsB (tkB m (remB B n) e) ∧
 (SmB (tkB m (remB B n) e) ∧
 (SmN (m) ∧
 (@Eq (Int) 0 0)))) ∧
 Q (zz205 (rgV m (tkB m (remB B n) e))) ⟨[(.cells [(zz2 B), (zz1 (tkN m B n e)), (zz1 (tkE m (remB B n) e))])], []⟩)) := by kernel_rfl
theorem ev_ru8 (B : Bs) (n e : Int) (Q : TV → VT → Prop) : vcallF Tryz.prog noGl (specs [(rNmF, rNmW)]) noOra 300 noLp 0 rU8F [.ptr 0 0] (zz209 (rsO B n e)) Q =
 (((@Eq (Bool) true true) ∧
 (IsB (B) ∧
 (InB (B) (n) ∧
 SmN 1))) ∧
 Q (zz1 (IntKind.wrap IntKind.i64 (nmI (1 : Int) (remB B n) e))) ⟨[(.cells [(zz2 B), (zz1 (tkN (1 : Int) B n e)), (zz1 (tkE (1 : Int) (remB B n) e))])], []⟩) := by kernel_rfl
theorem ev_ru16 (B : Bs) (n e : Int) (Q : TV → VT → Prop) : vcallF Tryz.prog noGl (specs [(rNmF, rNmW)]) noOra 300 noLp 0 rU16F [.ptr 0 0] (zz209 (rsO B n e)) Q =
 (((@Eq (Bool) true true) ∧
 (IsB (B) ∧
 (InB (B) (n) ∧
 SmN 2))) ∧
 Q (zz1 (IntKind.wrap IntKind.i64 (nmI (2 : Int) (remB B n) e))) ⟨[(.cells [(zz2 B), (zz1 (tkN (2 : Int) B n e)), (zz1 (tkE (2 : Int) (remB B n) e))])], []⟩) := by kernel_rfl
theorem ev_ru32 (B : Bs) (n e : Int) (Q : TV → VT → Prop) : vcallF Tryz.prog noGl (specs [(rNmF, rNmW)]) noOra 300 noLp 0 rU32F [.ptr 0 0] (zz209 (rsO B n e)) Q =
 (((@Eq (Bool) true true) ∧
 (IsB (B) ∧
 (InB (B) (n) ∧
 SmN 4))) ∧
 Q (zz7 (IntKind.wrap IntKind.u32 (nmI (4 : Int) (remB B n) e))) ⟨[(.cells [(zz2 B), (zz1 (tkN (4 : Int) B n e)), (zz1 (tkE (4 : Int) (remB B n) e))])], []⟩) := by kernel_rfl
theorem ev_rsu (B : Bs) (n e m : Int) (Q : TV → VT → Prop) : vcallF Tryz.prog noGl (specs [(rByF, rbW), (rRdF, rreadW)]) noOra 300 noLp 0 rSuF [.ptr 0 0, .val (.int .i64 m)] (zz209 (rsO B n e)) Q =
 (((@Eq (Bool) true true) ∧
 (IsB (B) ∧
 InB (B) (n))) ∧
 ((IsB (tkB m (remB B n) e) ∧
 SmB (tkB m (remB B n) e)) ∧
 Q zz31 ⟨[(.cells [(zz2 B), (zz1 (tkN m B n e)), (zz1 (tkE m (remB B n) e))]), (.cells [(zz2 (tkB m (remB B n) e)), zz4, zz4])], []⟩)) := by kernel_rfl
theorem ev_rle (B : Bs) (n e : Int) (Q : TV → VT → Prop) : vcallF Tryz.prog noGl noSp noOra 300 noLp 0 rLeF [.ptr 0 0] (zz209 (rsO B n e)) Q =
 (bif eqRes BinOp.neq (k6 e (0 : Int))
 then Q zz4 ⟨[(.cells [(zz2 B), (zz1 n), (zz1 e)])], []⟩
 else Q (zz1 (IntKind.wrap IntKind.i64 ((↑(List.length B) : Int) - n))) ⟨[(.cells [(zz2 B), (zz1 n), (zz1 e)])], []⟩) := by kernel_rfl
theorem ev_rre (B : Bs) (n e : Int) (Q : TV → VT → Prop) : vcallF Tryz.prog noGl (specs [(rLeF, rlW), (rByF, rbW)]) noOra 300 noLp 0 rReF [.ptr 0 0] (zz209 (rsO B n e)) Q =
 (((@Eq (Bool) true true) ∧
 (IsB (B) ∧
 InB (B) (n))) ∧
 (((@Eq (Bool) true true) ∧
 (IsB (B) ∧
 InB (B) (n))) ∧
 Q (zz2 (tkB (leB (remB B n) e) (remB B n) e)) ⟨[(.cells [(zz2 B), (zz1 (tkN (leB (remB B n) e) B n e)), (zz1 (tkE (leB (remB B n) e) (remB B n) e))])], []⟩)) := by kernel_rfl
end Go.Proofs.YtogbdjlelkepcaaGreatDoor
namespace Go.Proofs.YtogbdjlelkepcaaGreatDoor
open Go.RowKit

theorem mixedB_Tryz : Tryz.prog.follows .mixedOrders = true := by kernel_rfl
theorem bodiesB_Tryz : bodiesOk Tryz.prog = true := by kernel_rfl
theorem gvals_noGl : GVals noGl := fun _ _ h => by cases h
theorem eqI (q : IntKind) (x y : Int) : eqRes BinOp.eql (keyEq (.int q x) (.int q y)) = decide (x = y) := by
 simp [eqRes, keyEq, cellEq, Bool.beq_eq_decide_eq]
theorem neI (q : IntKind) (x y : Int) : eqRes BinOp.neq (keyEq (.int q x) (.int q y)) = !decide (x = y) := by
 simp [eqRes, keyEq, cellEq, Bool.beq_eq_decide_eq]
theorem u8Inf_ex : ∃ inf : TypeInfo, Tryz.prog.info? 5 = some inf ∧ inf.size = 1 ∧ inf.bytes + 1 = 2 ∧ inf.zero = some (.int .u8 0) :=
 ⟨(Tryz.prog.info? 5).getD default, by kernel_rfl, by kernel_rfl, by kernel_rfl, by kernel_rfl⟩
section
variable {x i m : Operand} {l : List (Nat × TV)} {b : Bs} {tok : Tok} {k k' : IntKind} {z z' : Int} {e : List TV} {n n' : Nat}
theorem opure_b (hx : evOf noGl l x = .vec 1 b tok) (hz : evOf noGl l i = .val (.int k z)) (h0 : 0 ≤ z) (he : b[z.toNat]? = some e) :
  OPure Tryz.prog noGl (.indexAddr 22 x i) l (.elt e) := by
 obtain ⟨inf, i1, i2, _, _⟩ := u8Inf_ex
 exact opure_index (inf := inf) Tryz.underlying22 i1 (by rw [i2]; exact hx) hz h0 he
theorem opure_bhi (hx : evOf noGl l x = .vec 1 b tok) (hz : evOf noGl l i = .val (.int k z)) (h0 : 0 ≤ z) (hn : z.toNat = n) (he : n ≤ b.length) : OPure Tryz.prog noGl (.slice 22 x none (some i) none) l (.vec 1 (b.take n) .none) := by
 subst hn
 obtain ⟨inf, i1, i2, _, _⟩ := u8Inf_ex
 have h := opure_hi (inf := inf) (P := Tryz.prog) (G := noGl) (x := x) (i := i) (l := l) (es := b) (tok := tok) Tryz.underlying22 i1 (by rw [i2]; exact hx) hz h0 he
 rw [i2] at h
 exact h
theorem opure_blo (hx : evOf noGl l x = .vec 1 b tok) (hz : evOf noGl l i = .val (.int k z)) (h0 : 0 ≤ z) (hn : z.toNat = n) (he : n ≤ b.length) : OPure Tryz.prog noGl (.slice 22 x (some i) none none) l (.vec 1 (b.drop n) tok) := by
 subst hn
 obtain ⟨inf, i1, i2, _, _⟩ := u8Inf_ex
 have h := opure_lo (inf := inf) (P := Tryz.prog) (G := noGl) (x := x) (i := i) (l := l) (es := b) (tok := tok) Tryz.underlying22 i1 (by rw [i2]; exact hx) hz h0 he
 rw [i2] at h
 exact h
theorem opure_bmx (hx : evOf noGl l x = .vec 1 b tok) (hz : evOf noGl l i = .val (.int k z)) (hm : evOf noGl l m = .val (.int k' z)) (h0 : 0 ≤ z) (hn : z.toNat = n) (he : n ≤ b.length) : OPure Tryz.prog noGl (.slice 22 x none (some i) (some m)) l (.vec 1 (b.take n) .none) := by
 subst hn
 obtain ⟨inf, i1, i2, _, _⟩ := u8Inf_ex
 refine ⟨?_⟩
 have h1 : Nat.ble z.toNat b.length = true := Nat.ble_eq_true_of_le he
 have h2 : Nat.ble 0 z.toNat = true := Nat.ble_eq_true_of_le (Nat.zero_le _)
 have h3 : Nat.ble z.toNat z.toNat = true := Nat.ble_eq_true_of_le (Nat.le_refl _)
 simp [vpure2, hx, hz, hm, vslice3, Tryz.underlying22, i1, i2, lowOf, natOf, h0, h1, h2, h3]
theorem opure_blh (hx : evOf noGl l x = .vec 1 b tok) (hz : evOf noGl l i = .val (.int k z)) (hm : evOf noGl l m = .val (.int k' z')) (h0 : 0 ≤ z) (hle : z ≤ z') (hn : z.toNat = n) (hn' : z'.toNat = n') (he : n' ≤ b.length) : OPure Tryz.prog noGl (.slice 22 x (some i) (some m) none) l (.vec 1 ((b.take n').drop n) .none) := by
 subst hn hn'
 obtain ⟨inf, i1, i2, _, _⟩ := u8Inf_ex
 refine ⟨?_⟩
 have h1 : z.toNat ≤ z'.toNat := by omega
 have h2 : 0 ≤ z' := by omega
 simp [vpure2, hx, hz, hm, vslice3, vsliceR, vsliceN, vslice, Tryz.underlying22, i1, i2, lowOf, natOf, h0, h1, h2, he]
theorem oturn_b {ro : Nat} {T T1 : VT} {s : Operand} {es es2 : Bs} {bn : Bool} {k n : Nat} (hs : vadopt T 1 (evOf noGl l s) = some (es, k, n, bn, T1)) (hx : srcOf 1 (evOf noGl l x) = some es2) (hb : es.length + es2.length ≤ 70368744177664) :
    OTurn Tryz.prog noGl ro T (.call ⟨.builtin .append, #[s, x], #[22, 22]⟩) l (.vec 1 (es ++ es2) (.tail k (n + es2.length))) { T1 with tails := T1.tails.set k (n + es2.length, 1, bn) } := by
  obtain ⟨inf, i1, i2, i3, i4⟩ := u8Inf_ex
  have h := oturn_app (inf := inf) (P := Tryz.prog) (G := noGl) (ro := ro) (T := T) (T1 := T1) (t := 22) (tx := 22) (s := s) (x := x) (l := l) (es := es) (es2 := es2) (k := k) (n := n) (bn := bn) Tryz.underlying22 i1 i4 (by rw [i2]; rfl) (by rw [i2]; decide) (by kernel_rfl) (by rw [i2]; exact hs) (by rw [i2]; exact hx)
    (by rw [i3]; omega)
  rw [i2] at h
  exact h
end
theorem ocl_turn {ro : Nat} (objs : List VO) (c : Bs) (hc : c.length ≤ 1000000) (s x : Nat) (hne : Nat.beq s x = false) : OTurn Tryz.prog noGl ro ⟨objs, []⟩ (.call ⟨.builtin .append, #[.tmp s, .tmp x], #[22, 22]⟩) [(s, .vec 1 [] .full), (x, .vec 1 c .none)] (.vec 1 c (.tail 0 c.length)) ⟨objs, [(c.length, 1, false)]⟩ := by
 have h := oturn_b (ro := ro) (T := ⟨objs, []⟩) (T1 := ⟨objs, [(0, 1, false)]⟩) (s := .tmp s) (x := .tmp x) (l := [(s, .vec 1 [] .full), (x, .vec 1 c .none)]) (es := []) (es2 := c) (k := 0) (n := 0) (bn := false)
  (by simp [evOf, evFind, vadopt]) (by simp [evOf, evFind, hne, srcOf]) (by simp only [List.length_nil]; omega)
 simp only [List.nil_append, Nat.zero_add] at h
 exact h
theorem cl_vcx {b : Bs} (hb : IsB b) : VCx Tryz.prog noGl 0 clF [.vec 1 b .none] ⟨[], []⟩ fun x T' => x = .vec 1 b .none ∧ T' = ⟨[], []⟩ := by
 refine VCx.asVec (Q := fun T' => T' = ⟨[], []⟩) (VCx.keepQ 0 0 (Nat.le_refl _) (Nat.le_refl _) ?_)
 cases b with
 | nil => exact vcallF_is mixedB_Tryz bodiesB_Tryz specsOk_none lsOk_none (ev_cl0 _) ⟨⟨.inl ⟨rfl, rfl⟩, rfl⟩, ⟨.inr ⟨_, rfl⟩, rfl⟩⟩
 | cons r b =>
  refine vcallF_is mixedB_Tryz bodiesB_Tryz specsOk_none lsOk_none (ev_cl1 r b _) ⟨ocl_turn [] (r :: b) hb.small 5 6 rfl, .inr ⟨.none, ?_⟩, rfl⟩
  have := hb.ren (Go.Proofs.YtogbdjlelkepcaaGreatDoor.keep 0) (Go.Proofs.YtogbdjlelkepcaaGreatDoor.keep 0)
  simp only [TV.ren, Tok.ren]
  rw [show [r] ++ b = r :: b from rfl, this]; rfl
theorem cloneW_ok : ∀ ro ys T K, cloneW ro ys T K → VCx Tryz.prog noGl ro clF ys T K := by
 intro ro ys T K hw
 unfold cloneW at hw
 split at hw
 ·rename_i b tok
  obtain ⟨hb, hk⟩ := hw
  exact VCx.loosePure gvals_noGl (cl_vcx hb) (by simp [looseTV]) (by simp [renL, TV.ren, hb.ren, Tok.ren]) (fun f h => by simp only [TV.ren, hb.ren, Tok.ren]) hk
 ·exact hw.elim
theorem wrd_vcx {b : Bs} (hb : IsB b) : VCx Tryz.prog noGl 0 wRdF [.vec 1 b .none] ⟨[], []⟩ fun x T' => x = .ptr 0 0 ∧ T' = ⟨[srcO b 0 0], []⟩ :=
 vcallF_is mixedB_Tryz bodiesB_Tryz (specs_ok fun p hp => by obtain rfl := List.mem_singleton.1 hp; exact cloneW_ok) lsOk_none (ev_wrd b _) ⟨hb, rfl, rfl⟩
theorem wRdW_ok : ∀ ro ys T K, sreadW ro ys T K → VCx Tryz.prog noGl ro wRdF ys T K := sreadW_ok gvals_noGl fun _ hb => wrd_vcx hb
def tkT (n : Int) (b : Bs) (a e : Int) : VT := ⟨[srcO (tkR n b e) (tkA n b e a) (tkE n b e)], []⟩
theorem wtk_vcx (b : Bs) (a e n : Int) : VCx Tryz.prog noGl 0 wTkF [.ptr 0 0, .val (.int .i64 n)] ⟨[srcO b a e], []⟩ fun x T' => x = .vec 1 (tkB n b e) .none ∧ T' = tkT n b a e := by
  refine VCx.asVec (Q := fun T' => T' = tkT n b a e) (vcallF_is mixedB_Tryz bodiesB_Tryz specsOk_none lsOk_none (ev_wtk b a e n n.toNat _) ?_)
  by_cases he : e = 0
  · subst he
    have he : (0 : Int) = 0 := rfl
    refine condF (by rw [eqI, decide_eq_true he]; rfl) ?_
    by_cases hn : n < 0
    · have hk : tkOk n b 0 = false := by simp only [tkOk, Bool.and_eq_false_iff, decide_eq_false_iff_not]; omega
      refine condT (decide_eq_true hn) ⟨.inl ⟨rfl, by simp only [tkB, hk, cond_false]⟩, ?_⟩
      simp only [tkT, tkR, tkA, tkE, hk, cond_false, decide_true, decide_eq_true hn, cond_true]; rfl
    · refine condF (decide_eq_false hn) ?_
      by_cases hl : n ≤ b.length
      · have hk : tkOk n b 0 = true := by simp only [tkOk, decide_true, decide_eq_true hl, decide_eq_true (show 0 ≤ n by omega)]; rfl
        have h1 : n.toNat ≤ b.length := by omega
        refine condF (decide_eq_false (by omega)) ⟨opure_bmx rfl rfl rfl (by omega) rfl h1, opure_blo rfl rfl (by omega) rfl h1, .inr ⟨.none, by simp only [tkB, hk, cond_true]⟩, ?_⟩
        simp only [tkT, tkR, tkA, tkE, hk, decide_true, decide_eq_false hn, decide_eq_true hl, cond_true, cond_false]; rfl
      · have hk : tkOk n b 0 = false := by simp only [tkOk, Bool.and_eq_false_iff, decide_eq_false_iff_not]; omega
        refine condT (decide_eq_true (by omega)) ⟨.inl ⟨rfl, by simp only [tkB, hk, cond_false]⟩, ?_⟩
        simp only [tkT, tkR, tkA, tkE, hk, decide_true, decide_eq_false hn, decide_eq_false hl, cond_false, cond_true]; rfl
  · have hk : tkOk n b e = false := by simp only [tkOk, Bool.and_eq_false_iff, decide_eq_false_iff_not]; omega
    refine condT (by rw [eqI, decide_eq_false he]; rfl) ⟨.inl ⟨rfl, by simp only [tkB, hk, cond_false]⟩, ?_⟩
    simp only [tkT, tkR, tkA, tkE, hk, decide_eq_false he, cond_false]; rfl
theorem wTkW_ok : ∀ ro ys T K, wTkW ro ys T K → VCx Tryz.prog noGl ro wTkF ys T K := sbW_ok gvals_noGl fun b a e n _ => wtk_vcx b a e n
theorem be_step {c : Bs} {j : Nat} {r : List TV} (h : c[j]? = some r) : beB (c.take (j + 1)) = beB (c.take j) * 256 + bval r := by
 rw [List.take_add_one, h]; exact beB_app _ _
theorem be_lt {c : Bs} (h : IsB c) {j : Nat} (hj : j < 8) : 0 ≤ beB (c.take j) ∧ (j < 8 → beB (c.take j) < 72057594037927936) := by
 obtain ⟨⟨l, hl, hz⟩, _⟩ := h.take j
 have hlen : l.length ≤ 7 := by
  have := congrArg List.length hl
  simp only [bV, List.length_map, List.length_take] at this
  omega
 rw [hl]
 obtain ⟨h1, h2⟩ := beB_lt hz
 refine ⟨h1, fun _ => Int.lt_of_lt_of_le h2 ?_⟩
 have h3 : (256 : Int) ^ l.length ≤ 256 ^ 7 := by
  exact_mod_cast Nat.pow_le_pow_right (by decide : 0 < 256) hlen
 exact h3
theorem wge_round (c : Bs) (hc : IsB c) (h8 : c.length ≤ 8) (K : KX) (hK : K .normal (slotsN 23 geK (geV c (beB c) c.length)) ⟨[], []⟩ []) : VWx Tryz.prog noGl none 0 (codeAt Tryz.prog wGeF 0) (slotsN 23 geK (geV c 0 0)) ⟨[], []⟩ [] K := by
  let sl : Nat → List TV := fun j => geV c (beB (c.take j)) j
  let Post : Exit → List TV → VT → Prop := fun e vs T => e = .normal ∧ vs = sl c.length ∧ T = ⟨[], []⟩
  refine loopK (f := wGeF) (id := 0) (by kernel_rfl) 23 geK (fun j => c.length - j) sl (fun _ => ⟨[], []⟩) (fun j => j ≤ c.length) 0 0 (fun _ _ => ⟨Nat.le_refl _, Nat.le_refl _⟩)
    Post (fun j hj => ?_) 0 (Nat.zero_le _) K (fun e vs T ⟨h1, h2, h3⟩ => ?_)
  · by_cases hlt : j < c.length
    · have hs : c[j]? = some c[j] := List.getElem?_eq_getElem hlt
      generalize c[j] = r at hs
      obtain ⟨z, rfl, hz0, hz1⟩ := hc.at hs
      have hw := wrapN j (by omega)
      obtain ⟨hb0, hb1⟩ := be_lt hc (j := j) (by omega)
      have hor := or_byte hb0 (hb1 (by omega)) hz0 hz1
      refine vx_is mixedB_Tryz bodiesB_Tryz specsOk_none lsOk_none (ev_wgeA c (beB (c.take j)) z j _) ?_
      refine condT (decide_eq_true (by omega)) ⟨opure_b rfl rfl (Int.natCast_nonneg _) (by rw [Int.toNat_natCast]; exact hs), rfl, rfl, j + 1, hlt, by simp only; omega, .inr ⟨rfl, ?_⟩⟩
      rw [hor, hw]
      simp only [renL, TV.ren, hc.ren, Tok.ren]
      simp only [sl, geV, be_step hs, bval, bT]
    · obtain rfl : j = c.length := by omega
      refine vx_is mixedB_Tryz bodiesB_Tryz specsOk_none lsOk_none (ev_wgeA c (beB (c.take c.length)) 0 c.length _) ?_
      exact condF (decide_eq_false (by omega)) ⟨rfl, rfl, rfl, rfl, rfl⟩
  · subst h1 h2 h3
    simp only [sl, List.take_length]
    exact hK
theorem wge_loop (c : Bs) (hc : IsB c) (h8 : c.length ≤ 8) : LsOk Tryz.prog noGl (geL c (beB c) (codeAt Tryz.prog wGeF 0)) := specsL_ok fun p hp => by
 obtain rfl := List.mem_singleton.1 hp
 exact loopL_ok fun K hK => wge_round c hc h8 K hK
theorem wge_vcx {b : Bs} (hb : IsB b) {n : Int} (hn : SmN n) (hl : LeN n b) : VCx Tryz.prog noGl 0 wGeF [.vec 1 b .none, .val (.int .i64 n)] ⟨[], []⟩ fun x T' => x = .val (.int .u64 (geN n b)) ∧ T' = ⟨[], []⟩ := by
 obtain ⟨h0, h8⟩ := hn
 have h1 : n.toNat ≤ b.length := by unfold LeN at hl; omega
 refine vcallF_is mixedB_Tryz bodiesB_Tryz specsOk_none (wge_loop (b.take n.toNat) (hb.take _) (by rw [List.length_take]; omega)) (ev_wge b (b.take n.toNat) n (beB (b.take n.toNat)) _) ?_
 exact ⟨opure_bhi rfl rfl h0 rfl h1, rfl, ⟨rfl, rfl, rfl, trivial, rfl, rfl, rfl⟩, rfl, rfl⟩
theorem getW_ok : ∀ ro ys T K, getW ro ys T K → VCx Tryz.prog noGl ro wGeF ys T K := by
 intro ro ys T K hw
 unfold getW at hw
 split at hw
 ·rename_i b tok n
  obtain ⟨⟨hb, hn, hl⟩, hk⟩ := hw
  exact VCx.loosePure gvals_noGl (wge_vcx hb hn hl) (by simp [looseTV]) (by simp [renL, TV.ren, hb.ren, Tok.ren]) (fun f h => rfl) hk
 ·exact hw.elim
theorem wnm_vcx {b : Bs} (hb : IsB b) (a e : Int) {n : Int} (hn : SmN n) : VCx Tryz.prog noGl 0 wNmF [.ptr 0 0, .val (.int .i64 n)] ⟨[srcO b a e], []⟩ fun x T' => x = .val (.int .u64 (nmI n b e)) ∧ T' = tkT n b a e := by
 refine vcallF_is mixedB_Tryz bodiesB_Tryz (specs_ok fun p hp => by rcases List.mem_cons.1 hp with rfl | hp; exact wTkW_ok; obtain rfl := List.mem_singleton.1 hp; exact getW_ok) lsOk_none (ev_wnm b a e n _) ⟨⟨rfl, hb⟩, ?_⟩
 by_cases h : ((tkB n b e).length : Int) < n
 ·exact condT (decide_eq_true h) ⟨by rw [nmI_lo h], rfl⟩
 ·exact condF (decide_eq_false h) ⟨⟨tkB_is hb, hn, by unfold LeN; omega⟩, by rw [geN_tk hn.1 (by omega)], rfl⟩
theorem wNmW_ok : ∀ ro ys T K, wNmW ro ys T K → VCx Tryz.prog noGl ro wNmF ys T K := by
 intro ro ys T K hw
 unfold wNmW at hw
 split at hw
 ·rename_i k n
  split at hw
  ·rename_i b a e ho
   obtain ⟨⟨hro, hb, hn⟩, hk⟩ := hw
   refine VCx.at1 (Q := fun x o' l' => x = .val (.int .u64 (nmI n b e)) ∧ o' = srcO (tkR n b e) (tkA n b e a) (tkE n b e) ∧ l' = []) gvals_noGl (Nat.le_of_ble_eq_true hro) ho rfl (srcO_ren hb a e _ _) (ys1 := [.ptr 0 0, .val (.int .i64 n)]) (by simp [renL, TV.ren, nameIn]) ((wnm_vcx hb a e hn).mono fun x T' ⟨h1, h2⟩ => ⟨_, _, h2, h1, rfl, rfl⟩) ?_
   rintro x o' l' ⟨rfl, rfl, rfl⟩
   rw [srcO_ren (tkR_is hb)]
   simpa [TV.ren] using hk
  ·exact hw.elim
 ·exact hw.elim
theorem wu_vcx {f : FuncId} {kind : IntKind} {n : Nat} (hn : SmN n) (hw : ∀ z : Int, 0 ≤ z → z < 256 ^ n → kind.wrap z = z)
  (h : ∀ (b : Bs) (a e : Int) (Q : TV → VT → Prop), IsB b → Q (.val (.int kind (kind.wrap (nmI n b e)))) (tkT n b a e) → VCx Tryz.prog noGl 0 f [.ptr 0 0] ⟨[srcO b a e], []⟩ Q) :
  ∀ ro ys T K, snW kind n ro ys T K → VCx Tryz.prog noGl ro f ys T K := snW_ok gvals_noGl fun b a e hb => by
 obtain ⟨h1, h2⟩ := nmI_lt (n := n) hb e
 exact h b a e _ hb ⟨by rw [hw _ h1 h2, nmB_eq], rfl⟩
theorem nms_ok : SpecsOk Tryz.prog noGl (specs [(wNmF, wNmW)]) := specs_ok fun p hp => by obtain rfl := List.mem_singleton.1 hp; exact wNmW_ok
theorem wU8_ok : ∀ ro ys T K, snW .i64 1 ro ys T K → VCx Tryz.prog noGl ro wU8F ys T K :=
 wu_vcx ⟨by decide, by decide⟩ (fun z h0 h1 => by simp only [IntKind.wrap, IntKind.bits, IntKind.signed]; simp; omega) fun b a e _ hb hq => vcallF_is mixedB_Tryz bodiesB_Tryz nms_ok lsOk_none (ev_wu8 b a e _) ⟨⟨rfl, hb, ⟨by decide, by decide⟩⟩, hq⟩
theorem wU16_ok : ∀ ro ys T K, snW .i64 2 ro ys T K → VCx Tryz.prog noGl ro wU16F ys T K :=
 wu_vcx ⟨by decide, by decide⟩ (fun z h0 h1 => by simp only [IntKind.wrap, IntKind.bits, IntKind.signed]; simp; omega) fun b a e _ hb hq => vcallF_is mixedB_Tryz bodiesB_Tryz nms_ok lsOk_none (ev_wu16 b a e _) ⟨⟨rfl, hb, ⟨by decide, by decide⟩⟩, hq⟩
theorem wU32_ok : ∀ ro ys T K, snW .u32 4 ro ys T K → VCx Tryz.prog noGl ro wU32F ys T K :=
 wu_vcx ⟨by decide, by decide⟩ (fun z h0 h1 => by simp only [IntKind.wrap, IntKind.bits, IntKind.signed]; simp; omega) fun b a e _ hb hq => vcallF_is mixedB_Tryz bodiesB_Tryz nms_ok lsOk_none (ev_wu32 b a e _) ⟨⟨rfl, hb, ⟨by decide, by decide⟩⟩, hq⟩
theorem wBy_ok : ∀ ro ys T K, sbW ro ys T K → VCx Tryz.prog noGl ro wByF ys T K := sbW_ok gvals_noGl fun b a e n hb =>
 vcallF_is mixedB_Tryz bodiesB_Tryz (specs_ok fun p hp => by rcases List.mem_cons.1 hp with rfl | hp; exact wTkW_ok; obtain rfl := List.mem_singleton.1 hp; exact cloneW_ok) lsOk_none (ev_wby b a e n _) ⟨⟨rfl, hb⟩, tkB_is hb, rfl, rfl⟩
theorem wSu_ok : ∀ ro ys T K, ssubW ro ys T K → VCx Tryz.prog noGl ro wSuF ys T K := ssubW_ok gvals_noGl fun b a e n hb =>
 vcallF_is mixedB_Tryz bodiesB_Tryz (specs_ok fun p hp => by rcases List.mem_cons.1 hp with rfl | hp; exact wTkW_ok; obtain rfl := List.mem_singleton.1 hp; exact wRdW_ok) lsOk_none (ev_wsu b a e n _) ⟨⟨rfl, hb⟩, tkB_is hb, rfl, rfl⟩
theorem wLe_ok : ∀ ro ys T K, slW ro ys T K → VCx Tryz.prog noGl ro wLeF ys T K := slW_ok gvals_noGl fun b a e hb => by
 refine vcallF_is mixedB_Tryz bodiesB_Tryz specsOk_none lsOk_none (ev_wle b a e _) ?_
 by_cases he : e = 0
 ·exact condF (by rw [eqI, decide_eq_true he]; rfl) ⟨by simp only [leB, decide_eq_true he, cond_true], rfl⟩
 ·exact condT (by rw [eqI, decide_eq_false he]; rfl) ⟨by simp only [leB, decide_eq_false he, cond_false], rfl⟩
theorem wEr_ok : ∀ ro ys T K, seW ro ys T K → VCx Tryz.prog noGl ro wErF ys T K := seW_ok gvals_noGl fun b a e _ =>
 vcallF_is mixedB_Tryz bodiesB_Tryz specsOk_none lsOk_none (ev_wer b a e _) ⟨rfl, rfl⟩
theorem wRe_ok : ∀ ro ys T K, srestW ro ys T K → VCx Tryz.prog noGl ro wReF ys T K := srestW_ok gvals_noGl fun b a e hb =>
 vcallF_is mixedB_Tryz bodiesB_Tryz (specs_ok fun p hp => by rcases List.mem_cons.1 hp with rfl | hp; exact wLe_ok; obtain rfl := List.mem_singleton.1 hp; exact wBy_ok) lsOk_none (ev_wre b a e _) ⟨⟨rfl, hb⟩, ⟨rfl, hb⟩, rfl, rfl⟩
end Go.Proofs.YtogbdjlelkepcaaGreatDoor
namespace Go.Proofs.YtogbdjlelkepcaaGreatDoor
open Go.RowKit

theorem wrap_id {z : Int} (h0 : -1000000000000000 ≤ z) (h1 : z ≤ 1000000000000000) : IntKind.i64.wrap z = z := by
 simp only [IntKind.wrap, IntKind.bits, IntKind.signed]; simp; omega
def rtT (m : Int) (B : Bs) (n e : Int) : VT := ⟨[rsO B (tkN m B n e) (tkE m (remB B n) e)], []⟩
theorem remB_len {B : Bs} {n : Int} (h : InB B n) : ((remB B n).length : Int) = B.length - n := by
 obtain ⟨h1, h2, h3⟩ := h
 simp only [remB, List.length_drop]; omega
theorem rrd_vcx {b : Bs} (hb : IsB b) : VCx Tryz.prog noGl 0 rRdF [.vec 1 b .none] ⟨[], []⟩ fun x T' => x = .ptr 0 0 ∧ T' = ⟨[rsO b 0 0], []⟩ := by
 refine VCx.keepQ 1 0 (Nat.zero_le _) (Nat.le_refl _) (vcallF_is mixedB_Tryz bodiesB_Tryz specsOk_none lsOk_none (ev_rrd b _) ⟨ocl_turn [] b hb.small 3 4 rfl, rfl, ?_⟩)
 simp only [VT.keep, List.take_succ_cons, List.take_zero, List.map_cons, List.map_nil, VO.ren, renL, TV.ren, hb.ren, Tok.ren]; rfl
theorem rRdW_ok : ∀ ro ys T K, rreadW ro ys T K → VCx Tryz.prog noGl ro rRdF ys T K := rreadW_ok gvals_noGl fun _ hb _ => rrd_vcx hb
theorem rby_vcx {B : Bs} (hB : IsB B) {n : Int} (hn : InB B n) (e m : Int) : VCx Tryz.prog noGl 0 rByF [.ptr 0 0, .val (.int .i64 m)] ⟨[rsO B n e], []⟩ fun x T' => x = .vec 1 (tkB m (remB B n) e) .none ∧ T' = rtT m B n e := by
  refine VCx.asVec (Q := fun T' => T' = rtT m B n e) (VCx.keepQ 1 0 (Nat.le_refl _) (Nat.le_refl _) (vcallF_is mixedB_Tryz bodiesB_Tryz specsOk_none lsOk_none (ev_rby B n e m m.toNat _) ?_))
  have hrl := remB_len hn
  obtain ⟨h1, h2, h3⟩ := hn
  by_cases he : e = 0
  · subst he
    refine condF (by rw [neI]; rfl) ?_
    by_cases hm : m < 0
    · have hk : tkOk m (remB B n) 0 = false := by simp only [tkOk, Bool.and_eq_false_iff, decide_eq_false_iff_not]; omega
      refine condT (decide_eq_true hm) ⟨.inl ⟨rfl, by simp only [tkB, hk, cond_false]⟩, ?_⟩
      rw [show rtT m B n 0 = ⟨[rsO B n 2], []⟩ by simp only [rtT, tkN, tkE, hk, cond_false, decide_true, decide_eq_true hm, cond_true]]
      simp only [VT.keep, List.take_succ_cons, List.take_zero, List.map_cons, List.map_nil]
      rw [show (VO.cells [.vec 1 B .none, .val (.int .i64 n), .val (.int .i64 2)]) = rsO B n 2 from rfl, rsO_ren hB]
    · refine condF (decide_eq_false hm) ?_
      rw [wrap_id (by omega) (by omega)]
      by_cases hl : m ≤ (remB B n).length
      · have hk : tkOk m (remB B n) 0 = true := by simp only [tkOk, decide_true, decide_eq_true hl, decide_eq_true (show 0 ≤ m by omega)]; rfl
        have h4 : m.toNat ≤ (remB B n).length := by omega
        refine condF (decide_eq_false (by omega)) ?_
        rw [wrap_id (by omega) (by omega)]
        have hs := opure_blh (x := .tmp 35) (i := .tmp 39) (m := .tmp 45) (l := [(35, .vec 1 B .none), (39, .val (.int .i64 n)), (45, .val (.int .i64 (n + m)))]) (b := B) (tok := .none) (k := .i64) (k' := .i64) (z := n) (z' := n + m) rfl rfl rfl h1 (by omega) rfl rfl (by omega)
        have e1 : (B.take (n + m).toNat).drop n.toNat = (remB B n).take m.toNat := by
          rw [show (n + m).toNat = n.toNat + m.toNat by omega, List.drop_take]; simp only [remB]; congr 1; omega
        rw [e1] at hs
        refine ⟨hs, ocl_turn _ _ ((remB_is hB n).take _).small 31 46 rfl, .inr ⟨.none, ?_⟩, ?_⟩
        · simp only [TV.ren, ((remB_is hB n).take m.toNat).ren, Tok.ren, tkB, hk, cond_true]; rfl
        · rw [show rtT m B n 0 = ⟨[rsO B (n + m) 0], []⟩ by simp only [rtT, tkN, tkE, hk, cond_true, decide_true, decide_eq_false hm, decide_eq_true hl, cond_false]]
          simp only [VT.keep, List.take_succ_cons, List.take_zero, List.map_cons, List.map_nil]
          rw [show (VO.cells [.vec 1 B .none, .val (.int .i64 (n + m)), .val (.int .i64 0)]) = rsO B (n + m) 0 from rfl, rsO_ren hB]
      · have hk : tkOk m (remB B n) 0 = false := by simp only [tkOk, Bool.and_eq_false_iff, decide_eq_false_iff_not]; omega
        refine condT (decide_eq_true (by omega)) ⟨.inl ⟨rfl, by simp only [tkB, hk, cond_false]⟩, ?_⟩
        rw [show rtT m B n 0 = ⟨[rsO B n 3], []⟩ by simp only [rtT, tkN, tkE, hk, cond_false, decide_true, decide_eq_false hm, decide_eq_false hl, cond_true]]
        simp only [VT.keep, List.take_succ_cons, List.take_zero, List.map_cons, List.map_nil]
        rw [show (VO.cells [.vec 1 B .none, .val (.int .i64 n), .val (.int .i64 3)]) = rsO B n 3 from rfl, rsO_ren hB]
  · have hk : tkOk m (remB B n) e = false := by simp only [tkOk, Bool.and_eq_false_iff, decide_eq_false_iff_not]; omega
    refine condT (by rw [neI, decide_eq_false he]; rfl) ⟨.inl ⟨rfl, by simp only [tkB, hk, cond_false]⟩, ?_⟩
    rw [show rtT m B n e = ⟨[rsO B n e], []⟩ by simp only [rtT, tkN, tkE, hk, cond_false, decide_eq_false he]]
    simp only [VT.keep, List.take_succ_cons, List.take_zero, List.map_cons, List.map_nil]
    rw [show (VO.cells [.vec 1 B .none, .val (.int .i64 n), .val (.int .i64 e)]) = rsO B n e from rfl, rsO_ren hB]
theorem rBy_ok : ∀ ro ys T K, rbW ro ys T K → VCx Tryz.prog noGl ro rByF ys T K := rbW_ok gvals_noGl fun _ _ e m hB hn => rby_vcx hB hn e m
theorem rge_round (c : Bs) (hc : IsB c) (h8 : c.length ≤ 8) (K : KX) (hK : K .normal (slotsN 45 rgK (geV c (beB c) c.length)) ⟨[], []⟩ []) : VWx Tryz.prog noGl none 0 (codeAt Tryz.prog rGeF 0) (slotsN 45 rgK (geV c 0 0)) ⟨[], []⟩ [] K := by
  let sl : Nat → List TV := fun j => geV c (beB (c.take j)) j
  let Post : Exit → List TV → VT → Prop := fun e vs T => e = .normal ∧ vs = sl c.length ∧ T = ⟨[], []⟩
  refine loopK (f := rGeF) (id := 0) (by kernel_rfl) 45 rgK (fun j => c.length - j) sl (fun _ => ⟨[], []⟩) (fun j => j ≤ c.length) 0 0 (fun _ _ => ⟨Nat.le_refl _, Nat.le_refl _⟩)
    Post (fun j hj => ?_) 0 (Nat.zero_le _) K (fun e vs T ⟨h1, h2, h3⟩ => ?_)
  · by_cases hlt : j < c.length
    · have hs : c[j]? = some c[j] := List.getElem?_eq_getElem hlt
      generalize c[j] = r at hs
      obtain ⟨z, rfl, hz0, hz1⟩ := hc.at hs
      have hw := wrapN j (by omega)
      obtain ⟨hb0, hb1⟩ := be_lt hc (j := j) (by omega)
      have hor := or_byte hb0 (hb1 (by omega)) hz0 hz1
      refine vx_is mixedB_Tryz bodiesB_Tryz specsOk_none lsOk_none (ev_rgeA c (beB (c.take j)) z j _) ?_
      refine condT (decide_eq_true (by omega)) ⟨opure_b rfl rfl (Int.natCast_nonneg _) (by rw [Int.toNat_natCast]; exact hs), rfl, rfl, j + 1, hlt, by simp only; omega, .inr ⟨rfl, ?_⟩⟩
      rw [hor, hw]
      simp only [renL, TV.ren, hc.ren, Tok.ren]
      simp only [sl, geV, be_step hs, bval, bT]
    · obtain rfl : j = c.length := by omega
      refine vx_is mixedB_Tryz bodiesB_Tryz specsOk_none lsOk_none (ev_rgeA c (beB (c.take c.length)) 0 c.length _) ?_
      exact condF (decide_eq_false (by omega)) ⟨rfl, rfl, rfl, rfl, rfl⟩
  · subst h1 h2 h3
    simp only [sl, List.take_length]
    exact hK
theorem rge_loop (c : Bs) (hc : IsB c) (h8 : c.length ≤ 8) : LsOk Tryz.prog noGl (rgL c (beB c) (codeAt Tryz.prog rGeF 0)) := specsL_ok fun p hp => by
 obtain rfl := List.mem_singleton.1 hp
 exact loopL_ok fun K hK => rge_round c hc h8 K hK
theorem rge_vcx {b : Bs} (hb : IsB b) {n : Int} (hn : SmN n) : VCx Tryz.prog noGl 0 rGeF [.vec 1 b .none, .val (.int .i64 0), .val (.int .i64 n)] ⟨[], []⟩ fun x T' => x = .tup [.val (.int .u64 (rgV n b)), .val (.bool (rgO n b))] ∧ T' = ⟨[], []⟩ := by
  obtain ⟨h0, h8⟩ := hn
  have hbs := hb.small
  refine vcallF_is mixedB_Tryz bodiesB_Tryz specsOk_none (rge_loop (b.take n.toNat) (hb.take _) (by rw [List.length_take]; omega)) (ev_rge b (b.take n.toNat) n (beB (b.take n.toNat)) _) ?_
  rw [wrap_id (by omega) (by omega), wrap_id (by omega) (by omega)]
  unfold rgV rgO
  by_cases h : n ≤ b.length
  · have h1 : n.toNat ≤ b.length := by omega
    have hs := opure_blh (x := .tmp 27) (i := .tmp 28) (m := .tmp 31) (l := [(27, .vec 1 b .none), (28, .val (.int .i64 0)), (31, .val (.int .i64 (0 + n)))]) (b := b) (tok := .none) (k := .i64) (k' := .i64) (z := 0) (z' := 0 + n) rfl rfl rfl (Int.le_refl _) (by omega) rfl rfl (by omega)
    rw [show (b.take (0 + n).toNat).drop (0 : Int).toNat = b.take n.toNat by rw [Int.zero_add]; rfl] at hs
    refine condF (decide_eq_false (by omega)) ⟨hs, rfl, ⟨rfl, rfl, rfl, trivial, rfl, rfl, rfl⟩, ?_, rfl⟩
    rw [decide_eq_true h]; rfl
  · refine condT (decide_eq_true (by omega)) ⟨?_, rfl⟩
    rw [decide_eq_false h]; rfl
theorem rgetW_ok : ∀ ro ys T K, rgetW ro ys T K → VCx Tryz.prog noGl ro rGeF ys T K := by
 intro ro ys T K hw
 unfold rgetW at hw
 split at hw
 ·rename_i b tok a n
  obtain ⟨⟨hb, _, hn, rfl⟩, hk⟩ := hw
  exact VCx.loosePure gvals_noGl (rge_vcx hb hn) (by simp [looseTV]) (by simp [renL, TV.ren, hb.ren, Tok.ren]) (fun f h => rfl) hk
 ·exact hw.elim
theorem rnm_vcx {B : Bs} (hB : IsB B) {n : Int} (hn : InB B n) (e : Int) {m : Int} (hm : SmN m) : VCx Tryz.prog noGl 0 rNmF [.ptr 0 0, .val (.int .i64 m)] ⟨[rsO B n e], []⟩ fun x T' => x = .val (.int .u64 (nmI m (remB B n) e)) ∧ T' = rtT m B n e := by
 refine vcallF_is mixedB_Tryz bodiesB_Tryz (specs_ok fun p hp => by rcases List.mem_cons.1 hp with rfl | hp; exact rBy_ok; obtain rfl := List.mem_singleton.1 hp; exact rgetW_ok) lsOk_none (ev_rnm B n e m _) ⟨⟨rfl, hB, hn⟩, ⟨tkB_is (remB_is hB n), (tkB_is (remB_is hB n)).small, hm, rfl⟩, ?_, rfl⟩
 rw [rgV_tk hm.1]
theorem rNmW_ok : ∀ ro ys T K, rNmW ro ys T K → VCx Tryz.prog noGl ro rNmF ys T K := by
 intro ro ys T K hw
 unfold rNmW at hw
 split at hw
 ·rename_i j m
  split at hw
  ·rename_i B n e ho
   obtain ⟨⟨hro, hB, hi, hm⟩, hk⟩ := hw
   refine VCx.at1 (Q := fun x o' l' => x = .val (.int .u64 (nmI m (remB B n) e)) ∧ o' = rsO B (tkN m B n e) (tkE m (remB B n) e) ∧ l' = []) gvals_noGl (Nat.le_of_ble_eq_true hro) ho rfl (rsO_ren hB n e _ _) (ys1 := [.ptr 0 0, .val (.int .i64 m)]) (by simp [renL, TV.ren, nameIn]) ((rnm_vcx hB hi e hm).mono fun x T' ⟨h1, h2⟩ => ⟨_, _, h2, h1, rfl, rfl⟩) ?_
   rintro x o' l' ⟨rfl, rfl, rfl⟩
   rw [rsO_ren hB]
   simpa [TV.ren] using hk
  ·exact hw.elim
 ·exact hw.elim
theorem ru_vcx {f : FuncId} {kind : IntKind} {m : Nat} (hw : ∀ z : Int, 0 ≤ z → z < 256 ^ m → kind.wrap z = z)
  (h : ∀ (B : Bs) (n e : Int) (Q : TV → VT → Prop), IsB B → InB B n → Q (.val (.int kind (kind.wrap (nmI m (remB B n) e)))) (rtT m B n e) → VCx Tryz.prog noGl 0 f [.ptr 0 0] ⟨[rsO B n e], []⟩ Q) :
  ∀ ro ys T K, rnW kind m ro ys T K → VCx Tryz.prog noGl ro f ys T K := rnW_ok gvals_noGl fun B n e hB hn => by
 obtain ⟨h1, h2⟩ := nmI_lt (n := m) (remB_is hB n) e
 exact h B n e _ hB hn ⟨by rw [hw _ h1 h2, nmB_eq], rfl⟩
theorem rnms_ok : SpecsOk Tryz.prog noGl (specs [(rNmF, rNmW)]) := specs_ok fun p hp => by obtain rfl := List.mem_singleton.1 hp; exact rNmW_ok
theorem rU8_ok : ∀ ro ys T K, rnW .i64 1 ro ys T K → VCx Tryz.prog noGl ro rU8F ys T K :=
 ru_vcx (fun z h0 h1 => by simp only [IntKind.wrap, IntKind.bits, IntKind.signed]; simp; omega) fun B n e _ hB hn hq => vcallF_is mixedB_Tryz bodiesB_Tryz rnms_ok lsOk_none (ev_ru8 B n e _) ⟨⟨rfl, hB, hn, ⟨by decide, by decide⟩⟩, hq⟩
theorem rU16_ok : ∀ ro ys T K, rnW .i64 2 ro ys T K → VCx Tryz.prog noGl ro rU16F ys T K :=
 ru_vcx (fun z h0 h1 => by simp only [IntKind.wrap, IntKind.bits, IntKind.signed]; simp; omega) fun B n e _ hB hn hq => vcallF_is mixedB_Tryz bodiesB_Tryz rnms_ok lsOk_none (ev_ru16 B n e _) ⟨⟨rfl, hB, hn, ⟨by decide, by decide⟩⟩, hq⟩
theorem rU32_ok : ∀ ro ys T K, rnW .u32 4 ro ys T K → VCx Tryz.prog noGl ro rU32F ys T K :=
 ru_vcx (fun z h0 h1 => by simp only [IntKind.wrap, IntKind.bits, IntKind.signed]; simp; omega) fun B n e _ hB hn hq => vcallF_is mixedB_Tryz bodiesB_Tryz rnms_ok lsOk_none (ev_ru32 B n e _) ⟨⟨rfl, hB, hn, ⟨by decide, by decide⟩⟩, hq⟩
theorem rSu_ok : ∀ ro ys T K, rsubW ro ys T K → VCx Tryz.prog noGl ro rSuF ys T K := rsubW_ok gvals_noGl fun B n e m hB hn =>
 vcallF_is mixedB_Tryz bodiesB_Tryz (specs_ok fun p hp => by rcases List.mem_cons.1 hp with rfl | hp; exact rBy_ok; obtain rfl := List.mem_singleton.1 hp; exact rRdW_ok) lsOk_none (ev_rsu B n e m _) ⟨⟨rfl, hB, hn⟩, ⟨tkB_is (remB_is hB n), (tkB_is (remB_is hB n)).small⟩, rfl, rfl⟩
theorem rLe_ok : ∀ ro ys T K, rlW ro ys T K → VCx Tryz.prog noGl ro rLeF ys T K := rlW_ok gvals_noGl fun B n e hB hn => by
 have hrl := remB_len hn
 have h3 := hB.small
 obtain ⟨h1, h2, _⟩ := hn
 refine vcallF_is mixedB_Tryz bodiesB_Tryz specsOk_none lsOk_none (ev_rle B n e _) ?_
 rw [wrap_id (by omega) (by omega)]
 by_cases he : e = 0
 ·exact condF (by rw [neI, decide_eq_true he]; rfl) ⟨by simp only [leB, decide_eq_true he, cond_true, hrl], rfl⟩
 ·exact condT (by rw [neI, decide_eq_false he]; rfl) ⟨by simp only [leB, decide_eq_false he, cond_false], rfl⟩
theorem rRe_ok : ∀ ro ys T K, rrestW ro ys T K → VCx Tryz.prog noGl ro rReF ys T K := rrestW_ok gvals_noGl fun B n e hB hn =>
 vcallF_is mixedB_Tryz bodiesB_Tryz (specs_ok fun p hp => by rcases List.mem_cons.1 hp with rfl | hp; exact rLe_ok; obtain rfl := List.mem_singleton.1 hp; exact rBy_ok) lsOk_none (ev_rre B n e _) ⟨⟨rfl, hB, hn⟩, ⟨rfl, hB, hn⟩, rfl, rfl⟩
end Go.Proofs.YtogbdjlelkepcaaGreatDoor
namespace Go.Proofs.YtogbdjlelkepcaaGreatDoor
open Go.RowKit

def M32 (n : Int) : Prop := 0 ≤ n ∧ n ≤ 32
def mkZ (n : Int) : Int := 4294967296 - 2 ^ (32 - n).toNat
def cnA (a n : Int) : Int := IntKind.wrap .u32 (BitVec.toNat (BitVec.ofInt (IntKind.bits .u32) a &&& BitVec.ofInt (IntKind.bits .u32) (mkZ n)) : Nat)

abbrev pMaF := 157
abbrev pCaF := 140
abbrev pRdF := 116
abbrev pPaF := 83
abbrev qMaF := 164
abbrev qCaF := 143
abbrev qRdF := 122
abbrev qPaF := 95
def mkW : Spec := fun _ ys T K => match ys with
 | [.val (.int .i64 n)] => M32 n ∧ K (.val (.int .u32 (mkZ n))) T
 | _ => False
def caW : Spec := fun _ ys T K => match ys with
 | [.agg [.val (.int .u32 a), .val (.int .i64 n)]] => M32 n ∧ K (.agg [.val (.int .u32 (cnA a n)), .val (.int .i64 n)]) T
 | _ => False
def sbE (l : Bs) : Spec := fun ro ys T K => match ys with
 | [.ptr k 0, .val (.int .i64 n)] => match T.objs[k]? with
  | some (.cells [.val (.bool true), .vec 1 b .none, .val (.int .i64 a), .val (.int .i64 e)]) => ((Nat.ble ro k = true ∧ IsB b) ∧ tkB n b e = l) ∧ K (.vec 1 l .none) { T with objs := T.objs.set k (srcO (tkR n b e) (tkA n b e a) (tkE n b e)) }
  | _ => False
 | _ => False
def rbE (l : Bs) : Spec := fun ro ys T K => match ys with
 | [.ptr j 0, .val (.int .i64 m)] => match T.objs[j]? with
  | some (.cells [.vec 1 B .none, .val (.int .i64 n), .val (.int .i64 e)]) => ((Nat.ble ro j = true ∧ IsB B ∧ InB B n) ∧ tkB m (remB B n) e = l) ∧ K (.vec 1 l .none) { T with objs := T.objs.set j (rsO B (tkN m B n e) (tkE m (remB B n) e)) }
  | _ => False
 | _ => False
theorem ev_pma0 (Q : TV → VT → Prop) : vcallF Tryz.prog noGl noSp noOra 300 noLp 0 pMaF [.val (.int .i64 0)] zz211 Q =
Q zz19 zz211 := by kernel_rfl
theorem ev_pma1 (Q : TV → VT → Prop) : vcallF Tryz.prog noGl noSp noOra 300 noLp 0 pMaF [.val (.int .i64 1)] zz211 Q =
Q (.val (.int .u32 2147483648)) zz211 := by kernel_rfl
theorem ev_pma2 (Q : TV → VT → Prop) : vcallF Tryz.prog noGl noSp noOra 300 noLp 0 pMaF [.val (.int .i64 2)] zz211 Q =
Q (.val (.int .u32 3221225472)) zz211 := by kernel_rfl
theorem ev_pma3 (Q : TV → VT → Prop) : vcallF Tryz.prog noGl noSp noOra 300 noLp 0 pMaF [.val (.int .i64 3)] zz211 Q =
Q (.val (.int .u32 3758096384)) zz211 := by kernel_rfl
theorem ev_pma4 (Q : TV → VT → Prop) : vcallF Tryz.prog noGl noSp noOra 300 noLp 0 pMaF [.val (.int .i64 4)] zz211 Q =
Q (.val (.int .u32 4026531840)) zz211 := by kernel_rfl
theorem ev_pma5 (Q : TV → VT → Prop) : vcallF Tryz.prog noGl noSp noOra 300 noLp 0 pMaF [.val (.int .i64 5)] zz211 Q =
Q (.val (.int .u32 4160749568)) zz211 := by kernel_rfl
theorem ev_pma6 (Q : TV → VT → Prop) : vcallF Tryz.prog noGl noSp noOra 300 noLp 0 pMaF [.val (.int .i64 6)] zz211 Q =
Q (.val (.int .u32 4227858432)) zz211 := by kernel_rfl
theorem ev_pma7 (Q : TV → VT → Prop) : vcallF Tryz.prog noGl noSp noOra 300 noLp 0 pMaF [.val (.int .i64 7)] zz211 Q =
Q (.val (.int .u32 4261412864)) zz211 := by kernel_rfl
theorem ev_pma8 (Q : TV → VT → Prop) : vcallF Tryz.prog noGl noSp noOra 300 noLp 0 pMaF [.val (.int .i64 8)] zz211 Q =
Q (.val (.int .u32 4278190080)) zz211 := by kernel_rfl
theorem ev_pma9 (Q : TV → VT → Prop) : vcallF Tryz.prog noGl noSp noOra 300 noLp 0 pMaF [.val (.int .i64 9)] zz211 Q =
Q (.val (.int .u32 4286578688)) zz211 := by kernel_rfl
theorem ev_pma10 (Q : TV → VT → Prop) : vcallF Tryz.prog noGl noSp noOra 300 noLp 0 pMaF [.val (.int .i64 10)] zz211 Q =
Q (.val (.int .u32 4290772992)) zz211 := by kernel_rfl
theorem ev_pma11 (Q : TV → VT → Prop) : vcallF Tryz.prog noGl noSp noOra 300 noLp 0 pMaF [.val (.int .i64 11)] zz211 Q =
Q (.val (.int .u32 4292870144)) zz211 := by kernel_rfl
theorem ev_pma12 (Q : TV → VT → Prop) : vcallF Tryz.prog noGl noSp noOra 300 noLp 0 pMaF [.val (.int .i64 12)] zz211 Q =
Q (.val (.int .u32 4293918720)) zz211 := by kernel_rfl
theorem ev_pma13 (Q : TV → VT → Prop) : vcallF Tryz.prog noGl noSp noOra 300 noLp 0 pMaF [.val (.int .i64 13)] zz211 Q =
Q (.val (.int .u32 4294443008)) zz211 := by kernel_rfl
theorem ev_pma14 (Q : TV → VT → Prop) : vcallF Tryz.prog noGl noSp noOra 300 noLp 0 pMaF [.val (.int .i64 14)] zz211 Q =
Q (.val (.int .u32 4294705152)) zz211 := by kernel_rfl
theorem ev_pma15 (Q : TV → VT → Prop) : vcallF Tryz.prog noGl noSp noOra 300 noLp 0 pMaF [.val (.int .i64 15)] zz211 Q =
Q (.val (.int .u32 4294836224)) zz211 := by kernel_rfl
theorem ev_pma16 (Q : TV → VT → Prop) : vcallF Tryz.prog noGl noSp noOra 300 noLp 0 pMaF [.val (.int .i64 16)] zz211 Q =
Q (.val (.int .u32 4294901760)) zz211 := by kernel_rfl
theorem ev_pma17 (Q : TV → VT → Prop) : vcallF Tryz.prog noGl noSp noOra 300 noLp 0 pMaF [.val (.int .i64 17)] zz211 Q =
Q (.val (.int .u32 4294934528)) zz211 := by kernel_rfl
theorem ev_pma18 (Q : TV → VT → Prop) : vcallF Tryz.prog noGl noSp noOra 300 noLp 0 pMaF [.val (.int .i64 18)] zz211 Q =
Q (.val (.int .u32 4294950912)) zz211 := by kernel_rfl
theorem ev_pma19 (Q : TV → VT → Prop) : vcallF Tryz.prog noGl noSp noOra 300 noLp 0 pMaF [.val (.int .i64 19)] zz211 Q =
Q (.val (.int .u32 4294959104)) zz211 := by kernel_rfl
theorem ev_pma20 (Q : TV → VT → Prop) : vcallF Tryz.prog noGl noSp noOra 300 noLp 0 pMaF [.val (.int .i64 20)] zz211 Q =
Q (.val (.int .u32 4294963200)) zz211 := by kernel_rfl
theorem ev_pma21 (Q : TV → VT → Prop) : vcallF Tryz.prog noGl noSp noOra 300 noLp 0 pMaF [.val (.int .i64 21)] zz211 Q =
Q (.val (.int .u32 4294965248)) zz211 := by kernel_rfl
theorem ev_pma22 (Q : TV → VT → Prop) : vcallF Tryz.prog noGl noSp noOra 300 noLp 0 pMaF [.val (.int .i64 22)] zz211 Q =
Q (.val (.int .u32 4294966272)) zz211 := by kernel_rfl
theorem ev_pma23 (Q : TV → VT → Prop) : vcallF Tryz.prog noGl noSp noOra 300 noLp 0 pMaF [.val (.int .i64 23)] zz211 Q =
Q (.val (.int .u32 4294966784)) zz211 := by kernel_rfl
theorem ev_pma24 (Q : TV → VT → Prop) : vcallF Tryz.prog noGl noSp noOra 300 noLp 0 pMaF [.val (.int .i64 24)] zz211 Q =
Q (.val (.int .u32 4294967040)) zz211 := by kernel_rfl
theorem ev_pma25 (Q : TV → VT → Prop) : vcallF Tryz.prog noGl noSp noOra 300 noLp 0 pMaF [.val (.int .i64 25)] zz211 Q =
Q (.val (.int .u32 4294967168)) zz211 := by kernel_rfl
theorem ev_pma26 (Q : TV → VT → Prop) : vcallF Tryz.prog noGl noSp noOra 300 noLp 0 pMaF [.val (.int .i64 26)] zz211 Q =
Q (.val (.int .u32 4294967232)) zz211 := by kernel_rfl
theorem ev_pma27 (Q : TV → VT → Prop) : vcallF Tryz.prog noGl noSp noOra 300 noLp 0 pMaF [.val (.int .i64 27)] zz211 Q =
Q (.val (.int .u32 4294967264)) zz211 := by kernel_rfl
theorem ev_pma28 (Q : TV → VT → Prop) : vcallF Tryz.prog noGl noSp noOra 300 noLp 0 pMaF [.val (.int .i64 28)] zz211 Q =
Q (.val (.int .u32 4294967280)) zz211 := by kernel_rfl
theorem ev_pma29 (Q : TV → VT → Prop) : vcallF Tryz.prog noGl noSp noOra 300 noLp 0 pMaF [.val (.int .i64 29)] zz211 Q =
Q (.val (.int .u32 4294967288)) zz211 := by kernel_rfl
theorem ev_pma30 (Q : TV → VT → Prop) : vcallF Tryz.prog noGl noSp noOra 300 noLp 0 pMaF [.val (.int .i64 30)] zz211 Q =
Q (.val (.int .u32 4294967292)) zz211 := by kernel_rfl
theorem ev_pma31 (Q : TV → VT → Prop) : vcallF Tryz.prog noGl noSp noOra 300 noLp 0 pMaF [.val (.int .i64 31)] zz211 Q =
Q (.val (.int .u32 4294967294)) zz211 := by kernel_rfl
theorem ev_pma32 (Q : TV → VT → Prop) : vcallF Tryz.prog noGl noSp noOra 300 noLp 0 pMaF [.val (.int .i64 32)] zz211 Q =
Q (.val (.int .u32 4294967295)) zz211 := by kernel_rfl
theorem ev_qma0 (Q : TV → VT → Prop) : vcallF Tryz.prog noGl noSp noOra 300 noLp 0 qMaF [.val (.int .i64 0)] zz211 Q =
Q zz19 zz211 := by kernel_rfl
theorem ev_qma1 (Q : TV → VT → Prop) : vcallF Tryz.prog noGl noSp noOra 300 noLp 0 qMaF [.val (.int .i64 1)] zz211 Q =
Q (.val (.int .u32 2147483648)) zz211 := by kernel_rfl
theorem ev_qma2 (Q : TV → VT → Prop) : vcallF Tryz.prog noGl noSp noOra 300 noLp 0 qMaF [.val (.int .i64 2)] zz211 Q =
Q (.val (.int .u32 3221225472)) zz211 := by kernel_rfl
theorem ev_qma3 (Q : TV → VT → Prop) : vcallF Tryz.prog noGl noSp noOra 300 noLp 0 qMaF [.val (.int .i64 3)] zz211 Q =
Q (.val (.int .u32 3758096384)) zz211 := by kernel_rfl
theorem ev_qma4 (Q : TV → VT → Prop) : vcallF Tryz.prog noGl noSp noOra 300 noLp 0 qMaF [.val (.int .i64 4)] zz211 Q =
Q (.val (.int .u32 4026531840)) zz211 := by kernel_rfl
theorem ev_qma5 (Q : TV → VT → Prop) : vcallF Tryz.prog noGl noSp noOra 300 noLp 0 qMaF [.val (.int .i64 5)] zz211 Q =
Q (.val (.int .u32 4160749568)) zz211 := by kernel_rfl
theorem ev_qma6 (Q : TV → VT → Prop) : vcallF Tryz.prog noGl noSp noOra 300 noLp 0 qMaF [.val (.int .i64 6)] zz211 Q =
Q (.val (.int .u32 4227858432)) zz211 := by kernel_rfl
theorem ev_qma7 (Q : TV → VT → Prop) : vcallF Tryz.prog noGl noSp noOra 300 noLp 0 qMaF [.val (.int .i64 7)] zz211 Q =
Q (.val (.int .u32 4261412864)) zz211 := by kernel_rfl
theorem ev_qma8 (Q : TV → VT → Prop) : vcallF Tryz.prog noGl noSp noOra 300 noLp 0 qMaF [.val (.int .i64 8)] zz211 Q =
Q (.val (.int .u32 4278190080)) zz211 := by kernel_rfl
theorem ev_qma9 (Q : TV → VT → Prop) : vcallF Tryz.prog noGl noSp noOra 300 noLp 0 qMaF [.val (.int .i64 9)] zz211 Q =
Q (.val (.int .u32 4286578688)) zz211 := by kernel_rfl
theorem ev_qma10 (Q : TV → VT → Prop) : vcallF Tryz.prog noGl noSp noOra 300 noLp 0 qMaF [.val (.int .i64 10)] zz211 Q =
Q (.val (.int .u32 4290772992)) zz211 := by kernel_rfl
theorem ev_qma11 (Q : TV → VT → Prop) : vcallF Tryz.prog noGl noSp noOra 300 noLp 0 qMaF [.val (.int .i64 11)] zz211 Q =
Q (.val (.int .u32 4292870144)) zz211 := by kernel_rfl
theorem ev_qma12 (Q : TV → VT → Prop) : vcallF Tryz.prog noGl noSp noOra 300 noLp 0 qMaF [.val (.int .i64 12)] zz211 Q =
Q (.val (.int .u32 4293918720)) zz211 := by kernel_rfl
theorem ev_qma13 (Q : TV → VT → Prop) : vcallF Tryz.prog noGl noSp noOra 300 noLp 0 qMaF [.val (.int .i64 13)] zz211 Q =
Q (.val (.int .u32 4294443008)) zz211 := by kernel_rfl
theorem ev_qma14 (Q : TV → VT → Prop) : vcallF Tryz.prog noGl noSp noOra 300 noLp 0 qMaF [.val (.int .i64 14)] zz211 Q =
Q (.val (.int .u32 4294705152)) zz211 := by kernel_rfl
theorem ev_qma15 (Q : TV → VT → Prop) : vcallF Tryz.prog noGl noSp noOra 300 noLp 0 qMaF [.val (.int .i64 15)] zz211 Q =
Q (.val (.int .u32 4294836224)) zz211 := by kernel_rfl
theorem ev_qma16 (Q : TV → VT → Prop) : vcallF Tryz.prog noGl noSp noOra 300 noLp 0 qMaF [.val (.int .i64 16)] zz211 Q =
Q (.val (.int .u32 4294901760)) zz211 := by kernel_rfl
theorem ev_qma17 (Q : TV → VT → Prop) : vcallF Tryz.prog noGl noSp noOra 300 noLp 0 qMaF [.val (.int .i64 17)] zz211 Q =
Q (.val (.int .u32 4294934528)) zz211 := by kernel_rfl
theorem ev_qma18 (Q : TV → VT → Prop) : vcallF Tryz.prog noGl noSp noOra 300 noLp 0 qMaF [.val (.int .i64 18)] zz211 Q =
Q (.val (.int .u32 4294950912)) zz211 := by kernel_rfl
theorem ev_qma19 (Q : TV → VT → Prop) : vcallF Tryz.prog noGl noSp noOra 300 noLp 0 qMaF [.val (.int .i64 19)] zz211 Q =
Q (.val (.int .u32 4294959104)) zz211 := by kernel_rfl
theorem ev_qma20 (Q : TV → VT → Prop) : vcallF Tryz.prog noGl noSp noOra 300 noLp 0 qMaF [.val (.int .i64 20)] zz211 Q =
Q (.val (.int .u32 4294963200)) zz211 := by kernel_rfl
theorem ev_qma21 (Q : TV → VT → Prop) : vcallF Tryz.prog noGl noSp noOra 300 noLp 0 qMaF [.val (.int .i64 21)] zz211 Q =
Q (.val (.int .u32 4294965248)) zz211 := by kernel_rfl
theorem ev_qma22 (Q : TV → VT → Prop) : vcallF Tryz.prog noGl noSp noOra 300 noLp 0 qMaF [.val (.int .i64 22)] zz211 Q =
Q (.val (.int .u32 4294966272)) zz211 := by kernel_rfl
theorem ev_qma23 (Q : TV → VT → Prop) : vcallF Tryz.prog noGl noSp noOra 300 noLp 0 qMaF [.val (.int .i64 23)] zz211 Q =
Q (.val (.int .u32 4294966784)) zz211 := by kernel_rfl
theorem ev_qma24 (Q : TV → VT → Prop) : vcallF Tryz.prog noGl noSp noOra 300 noLp 0 qMaF [.val (.int .i64 24)] zz211 Q =
Q (.val (.int .u32 4294967040)) zz211 := by kernel_rfl
theorem ev_qma25 (Q : TV → VT → Prop) : vcallF Tryz.prog noGl noSp noOra 300 noLp 0 qMaF [.val (.int .i64 25)] zz211 Q =
Q (.val (.int .u32 4294967168)) zz211 := by kernel_rfl
theorem ev_qma26 (Q : TV → VT → Prop) : vcallF Tryz.prog noGl noSp noOra 300 noLp 0 qMaF [.val (.int .i64 26)] zz211 Q =
Q (.val (.int .u32 4294967232)) zz211 := by kernel_rfl
theorem ev_qma27 (Q : TV → VT → Prop) : vcallF Tryz.prog noGl noSp noOra 300 noLp 0 qMaF [.val (.int .i64 27)] zz211 Q =
Q (.val (.int .u32 4294967264)) zz211 := by kernel_rfl
theorem ev_qma28 (Q : TV → VT → Prop) : vcallF Tryz.prog noGl noSp noOra 300 noLp 0 qMaF [.val (.int .i64 28)] zz211 Q =
Q (.val (.int .u32 4294967280)) zz211 := by kernel_rfl
theorem ev_qma29 (Q : TV → VT → Prop) : vcallF Tryz.prog noGl noSp noOra 300 noLp 0 qMaF [.val (.int .i64 29)] zz211 Q =
Q (.val (.int .u32 4294967288)) zz211 := by kernel_rfl
theorem ev_qma30 (Q : TV → VT → Prop) : vcallF Tryz.prog noGl noSp noOra 300 noLp 0 qMaF [.val (.int .i64 30)] zz211 Q =
Q (.val (.int .u32 4294967292)) zz211 := by kernel_rfl
theorem ev_qma31 (Q : TV → VT → Prop) : vcallF Tryz.prog noGl noSp noOra 300 noLp 0 qMaF [.val (.int .i64 31)] zz211 Q =
Q (.val (.int .u32 4294967294)) zz211 := by kernel_rfl
theorem ev_qma32 (Q : TV → VT → Prop) : vcallF Tryz.prog noGl noSp noOra 300 noLp 0 qMaF [.val (.int .i64 32)] zz211 Q =
Q (.val (.int .u32 4294967295)) zz211 := by kernel_rfl
theorem ev_pca (a n : Int) (Q : TV → VT → Prop) : vcallF Tryz.prog noGl (specs [(pMaF, mkW)]) (tellS [(999999, .dead, none)]) 300 noLp 0 pCaF [.agg [.val (.int .u32 a), .val (.int .i64 n)]] zz211 Q =
 (M32 (if (32 : Int) < if (0 : Int) > n then (0 : Int) else n then (32 : Int) else if (0 : Int) > n then (0 : Int) else n) ∧
 Q (zz198 (IntKind.wrap IntKind.u32 (↑(BitVec.toNat (BitVec.ofInt (IntKind.bits IntKind.u32) a &&& BitVec.ofInt (IntKind.bits IntKind.u32) (mkZ (if (32 : Int) < if (0 : Int) > n then (0 : Int) else n then (32 : Int) else if (0 : Int) > n then (0 : Int) else n)))) : Int)) (if (32 : Int) < if (0 : Int) > n then (0 : Int) else n then (32 : Int) else if (0 : Int) > n then (0 : Int) else n)) ⟨[(zz203 a n), (zz203 (IntKind.wrap IntKind.u32 (↑(BitVec.toNat (BitVec.ofInt (IntKind.bits IntKind.u32) a &&& BitVec.ofInt (IntKind.bits IntKind.u32) (mkZ (if (32 : Int) < if (0 : Int) > n then (0 : Int) else n then (32 : Int) else if (0 : Int) > n then (0 : Int) else n)))) : Int)) (if (32 : Int) < if (0 : Int) > n then (0 : Int) else n then (32 : Int) else if (0 : Int) > n then (0 : Int) else n))], []⟩) := by kernel_rfl
abbrev zzy0 (a : Int) : TV := (zz7 (IntKind.wrap IntKind.u32 (↑(BitVec.toNat (BitVec.ofInt (IntKind.bits IntKind.u32) a &&& BitVec.ofInt (IntKind.bits IntKind.u32) (mkZ (32 : Int)))) : Int)))
abbrev zzy1 (a : Int) : TV := (zz7 (IntKind.wrap IntKind.u32 (↑(BitVec.toNat (BitVec.ofInt (IntKind.bits IntKind.u32) a &&& BitVec.ofInt (IntKind.bits IntKind.u32) (mkZ (0 : Int)))) : Int)))
abbrev zzy2 (a : Int) (n : Int) : VO := (zz203 (IntKind.wrap IntKind.u32 (↑(BitVec.toNat (BitVec.ofInt (IntKind.bits IntKind.u32) a &&& BitVec.ofInt (IntKind.bits IntKind.u32) (mkZ n))) : Int)) n)
theorem ev_qca (a n : Int) (Q : TV → VT → Prop) : vcallF Tryz.prog noGl (specs [(qMaF, mkW)]) (tellS [(999999, .dead, none)]) 300 noLp 0 qCaF [.agg [.val (.int .u32 a), .val (.int .i64 n)]] zz211 Q =
 (bif decide (n < (0 : Int))
 then (M32 0 ∧
 Q (.agg [(zzy1 a), zz4]) ⟨[(.cells [(zzy1 a), zz4]), (.cells [(zzy1 a), zz4])], []⟩)
 else (bif decide (n > (32 : Int))
 then (M32 32 ∧
 Q (.agg [(zzy0 a), (.val (.int .i64 32))]) ⟨[(.cells [(zzy0 a), (.val (.int .i64 32))]), (.cells [(zzy0 a), (.val (.int .i64 32))])], []⟩)
 else (M32 (n) ∧
 Q (zz198 (IntKind.wrap IntKind.u32 (↑(BitVec.toNat (BitVec.ofInt (IntKind.bits IntKind.u32) a &&& BitVec.ofInt (IntKind.bits IntKind.u32) (mkZ n))) : Int)) n) ⟨[(zzy2 a n), (zzy2 a n)], []⟩))) := by kernel_rfl
abbrev zzy3 (b : Bs) (e : Int) (a : Int) : TV := (zz1 (tkA (IntKind.wrap IntKind.i64 (Int.tdiv (IntKind.wrap IntKind.i64 (IntKind.wrap IntKind.i64 (nmB (1 : Nat) b e + (8 : Int)) - (1 : Int))) (8 : Int))) (tkR (↑(1 : Nat) : Int) b e) (tkE (↑(1 : Nat) : Int) b e) (tkA (↑(1 : Nat) : Int) b e a)))
abbrev zzy4 (b : Bs) (e : Int) : TV := (zz2 (tkR (IntKind.wrap IntKind.i64 (Int.tdiv (IntKind.wrap IntKind.i64 (IntKind.wrap IntKind.i64 (nmB (1 : Nat) b e + (8 : Int)) - (1 : Int))) (8 : Int))) (tkR (↑(1 : Nat) : Int) b e) (tkE (↑(1 : Nat) : Int) b e)))
abbrev zzy5 (b : Bs) (e : Int) : TV := (zz1 (tkE (IntKind.wrap IntKind.i64 (Int.tdiv (IntKind.wrap IntKind.i64 (IntKind.wrap IntKind.i64 (nmB (1 : Nat) b e + (8 : Int)) - (1 : Int))) (8 : Int))) (tkR (↑(1 : Nat) : Int) b e) (tkE (↑(1 : Nat) : Int) b e)))
theorem ev_prd0 (b : Bs) (a e : Int) (Q : TV → VT → Prop) : vcallF Tryz.prog noGl (specs [(wU8F, snW .i64 1), (wErF, seW), (wByF, sbE []), (pCaF, caW)]) noOra 300 noLp 0 pRdF [.ptr 0 0] (zz209 (srcO b a e)) Q =
 (((@Eq (Bool) true true) ∧
 IsB (b)) ∧
 (((@Eq (Bool) true true) ∧
 IsB (tkR (↑(1 : Nat) : Int) b e)) ∧
 (bif eqRes BinOp.neq (k6 (tkE (↑(1 : Nat) : Int) b e) (0 : Int))
 then Q zz202 ⟨[(.cells [zz133, (zz2 (tkR (↑(1 : Nat) : Int) b e)), (zz1 (tkA (↑(1 : Nat) : Int) b e a)), (zz1 (tkE (↑(1 : Nat) : Int) b e))]), zz201], []⟩
 else (bif decide (nmB (1 : Nat) b e > (32 : Int))
 then Q zz202 ⟨[(.cells [zz133, (zz2 (tkR (↑(1 : Nat) : Int) b e)), (zz1 (tkA (↑(1 : Nat) : Int) b e a)), (zz1 (tkE (↑(1 : Nat) : Int) b e))]), zz201], []⟩
 else ((((@Eq (Bool) true true) ∧
 IsB (tkR (↑(1 : Nat) : Int) b e)) ∧
 (@Eq (Bs) (tkB (IntKind.wrap IntKind.i64 (Int.tdiv (IntKind.wrap IntKind.i64 (IntKind.wrap IntKind.i64 (nmB (1 : Nat) b e + (8 : Int)) - (1 : Int))) (8 : Int))) (tkR (↑(1 : Nat) : Int) b e) (tkE (↑(1 : Nat) : Int) b e)) [])) ∧
 (((@Eq (Bool) true true) ∧
 IsB (tkR (IntKind.wrap IntKind.i64 (Int.tdiv (IntKind.wrap IntKind.i64 (IntKind.wrap IntKind.i64 (nmB (1 : Nat) b e + (8 : Int)) - (1 : Int))) (8 : Int))) (tkR (↑(1 : Nat) : Int) b e) (tkE (↑(1 : Nat) : Int) b e))) ∧
 (bif eqRes BinOp.neq (k6 (tkE (IntKind.wrap IntKind.i64 (Int.tdiv (IntKind.wrap IntKind.i64 (IntKind.wrap IntKind.i64 (nmB (1 : Nat) b e + (8 : Int)) - (1 : Int))) (8 : Int))) (tkR (↑(1 : Nat) : Int) b e) (tkE (↑(1 : Nat) : Int) b e)) (0 : Int))
 then Q zz202 ⟨[(.cells [zz133, (zzy4 b e), (zzy3 b e a), (zzy5 b e)]), zz201, zz200], []⟩
 else (M32 (nmB (1 : Nat) b e) ∧
 Q (zz199 (cnA
  (IntKind.wrap IntKind.u32
    (IntKind.wrap IntKind.u64
      (↑(BitVec.toNat
            (BitVec.ofInt (IntKind.bits IntKind.u64)
                (IntKind.wrap IntKind.u64
                  (IntKind.wrap IntKind.u64
                      (↑(BitVec.toNat
                            (BitVec.ofInt (IntKind.bits IntKind.u64)
                                (IntKind.wrap IntKind.u64
                                  (IntKind.wrap IntKind.u64
                                      (↑(BitVec.toNat
                                            (BitVec.ofInt (IntKind.bits IntKind.u64)
                                                (IntKind.wrap IntKind.u64
                                                  (IntKind.wrap IntKind.u64 (↑(BitVec.toNat (BitVec.ofInt (IntKind.bits IntKind.u64) (IntKind.wrap IntKind.u64 ((0 : Int) * (2 : Int) ^ min (Int.toNat (8 : Int)) (IntKind.bits IntKind.u64))) ||| BitVec.ofInt (IntKind.bits IntKind.u64) (IntKind.wrap IntKind.u64 (0 : Int)))) : Int) *
                                                    (2 : Int) ^ min (Int.toNat (8 : Int)) (IntKind.bits IntKind.u64))) |||
                                              BitVec.ofInt (IntKind.bits IntKind.u64) (IntKind.wrap IntKind.u64 (0 : Int)))) :
                                        Int) *
                                    (2 : Int) ^ min (Int.toNat (8 : Int)) (IntKind.bits IntKind.u64))) |||
                              BitVec.ofInt (IntKind.bits IntKind.u64) (IntKind.wrap IntKind.u64 (0 : Int)))) :
                        Int) *
                    (2 : Int) ^ min (Int.toNat (8 : Int)) (IntKind.bits IntKind.u64))) |||
              BitVec.ofInt (IntKind.bits IntKind.u64) (IntKind.wrap IntKind.u64 (0 : Int)))) :
        Int)))
  (nmB (1 : Nat) b e)) (nmB (1 : Nat) b e)) ⟨[(.cells [zz133, (zzy4 b e), (zzy3 b e a), (zzy5 b e)]), (zz203 (cnA
  (IntKind.wrap IntKind.u32
    (IntKind.wrap IntKind.u64
      (↑(BitVec.toNat
            (BitVec.ofInt (IntKind.bits IntKind.u64)
                (IntKind.wrap IntKind.u64
                  (IntKind.wrap IntKind.u64
                      (↑(BitVec.toNat
                            (BitVec.ofInt (IntKind.bits IntKind.u64)
                                (IntKind.wrap IntKind.u64
                                  (IntKind.wrap IntKind.u64
                                      (↑(BitVec.toNat
                                            (BitVec.ofInt (IntKind.bits IntKind.u64)
                                                (IntKind.wrap IntKind.u64
                                                  (IntKind.wrap IntKind.u64 (↑(BitVec.toNat (BitVec.ofInt (IntKind.bits IntKind.u64) (IntKind.wrap IntKind.u64 ((0 : Int) * (2 : Int) ^ min (Int.toNat (8 : Int)) (IntKind.bits IntKind.u64))) ||| BitVec.ofInt (IntKind.bits IntKind.u64) (IntKind.wrap IntKind.u64 (0 : Int)))) : Int) *
                                                    (2 : Int) ^ min (Int.toNat (8 : Int)) (IntKind.bits IntKind.u64))) |||
                                              BitVec.ofInt (IntKind.bits IntKind.u64) (IntKind.wrap IntKind.u64 (0 : Int)))) :
                                        Int) *
                                    (2 : Int) ^ min (Int.toNat (8 : Int)) (IntKind.bits IntKind.u64))) |||
                              BitVec.ofInt (IntKind.bits IntKind.u64) (IntKind.wrap IntKind.u64 (0 : Int)))) :
                        Int) *
                    (2 : Int) ^ min (Int.toNat (8 : Int)) (IntKind.bits IntKind.u64))) |||
              BitVec.ofInt (IntKind.bits IntKind.u64) (IntKind.wrap IntKind.u64 (0 : Int)))) :
        Int)))
  (nmB (1 : Nat) b e)) (nmB (1 : Nat) b e)), zz200], []⟩)))))))) := by kernel_rfl
abbrev zzy6 (B : Bs) (n : Int) (e : Int) : TV := (zz1 (tkE (IntKind.wrap IntKind.i64 (Int.tdiv (IntKind.wrap IntKind.i64 (nmB (1 : Nat) (remB B n) e + (7 : Int))) (8 : Int))) (remB B (tkN (↑(1 : Nat) : Int) B n e)) (tkE (↑(1 : Nat) : Int) (remB B n) e)))
abbrev zzy7 (B : Bs) (n : Int) (e : Int) : TV := (zz1 (tkN (IntKind.wrap IntKind.i64 (Int.tdiv (IntKind.wrap IntKind.i64 (nmB (1 : Nat) (remB B n) e + (7 : Int))) (8 : Int))) B (tkN (↑(1 : Nat) : Int) B n e) (tkE (↑(1 : Nat) : Int) (remB B n) e)))
theorem ev_qrd0 (B : Bs) (n e : Int) (Q : TV → VT → Prop) : vcallF Tryz.prog noGl (specs [(rU8F, rnW .i64 1), (rByF, rbE []), (qCaF, caW)]) noOra 300 noLp 0 qRdF [.ptr 0 0] (zz209 (rsO B n e)) Q =
 (((@Eq (Bool) true true) ∧
 (IsB (B) ∧
 InB (B) (n))) ∧
 (bif eqRes BinOp.neq (k6 (tkE (↑(1 : Nat) : Int) (remB B n) e) (0 : Int))
 then Q zz202 ⟨[(.cells [(zz2 B), (zz1 (tkN (↑(1 : Nat) : Int) B n e)), (zz1 (tkE (↑(1 : Nat) : Int) (remB B n) e))]), zz201], []⟩
 else (bif decide (nmB (1 : Nat) (remB B n) e > (32 : Int))
 then Q zz202 ⟨[(.cells [(zz2 B), (zz1 (tkN (↑(1 : Nat) : Int) B n e)), (zz1 (tkE (↑(1 : Nat) : Int) (remB B n) e))]), zz201], []⟩
 else ((((@Eq (Bool) true true) ∧
 (IsB (B) ∧
 InB (B) (tkN (↑(1 : Nat) : Int) B n e))) ∧
 (@Eq (Bs) (tkB (IntKind.wrap IntKind.i64 (Int.tdiv (IntKind.wrap IntKind.i64 (nmB (1 : Nat) (remB B n) e + (7 : Int))) (8 : Int))) (remB B (tkN (↑(1 : Nat) : Int) B n e)) (tkE (↑(1 : Nat) : Int) (remB B n) e)) [])) ∧
 (bif eqRes BinOp.neq (k6 (tkE (IntKind.wrap IntKind.i64 (Int.tdiv (IntKind.wrap IntKind.i64 (nmB (1 : Nat) (remB B n) e + (7 : Int))) (8 : Int))) (remB B (tkN (↑(1 : Nat) : Int) B n e)) (tkE (↑(1 : Nat) : Int) (remB B n) e)) (0 : Int))
 then Q zz202 ⟨[(.cells [(zz2 B), (zzy7 B n e), (zzy6 B n e)]), zz201, (.cells [zz19, (zz1 (nmB (1 : Nat) (remB B n) e))])], []⟩
 else (M32 (nmB (1 : Nat) (remB B n) e) ∧
 Q (zz199 (cnA (0 : Int) (nmB (1 : Nat) (remB B n) e)) (nmB (1 : Nat) (remB B n) e)) ⟨[(.cells [(zz2 B), (zzy7 B n e), (zzy6 B n e)]), (zz203 (cnA (0 : Int) (nmB (1 : Nat) (remB B n) e)) (nmB (1 : Nat) (remB B n) e)), (.cells [zz19, (zz1 (nmB (1 : Nat) (remB B n) e))])], []⟩)))))) := by kernel_rfl
theorem ev_prd1 (b : Bs) (a e : Int) (z0 : Int) (Q : TV → VT → Prop) : vcallF Tryz.prog noGl (specs [(wU8F, snW .i64 1), (wErF, seW), (wByF, sbE [bT z0]), (pCaF, caW)]) noOra 300 noLp 0 pRdF [.ptr 0 0] (zz209 (srcO b a e)) Q =
 (((@Eq (Bool) true true) ∧
 IsB (b)) ∧
 (((@Eq (Bool) true true) ∧
 IsB (tkR (↑(1 : Nat) : Int) b e)) ∧
 (bif eqRes BinOp.neq (k6 (tkE (↑(1 : Nat) : Int) b e) (0 : Int))
 then Q zz202 ⟨[(.cells [zz133, (zz2 (tkR (↑(1 : Nat) : Int) b e)), (zz1 (tkA (↑(1 : Nat) : Int) b e a)), (zz1 (tkE (↑(1 : Nat) : Int) b e))]), zz201], []⟩
 else (bif decide (nmB (1 : Nat) b e > (32 : Int))
 then Q zz202 ⟨[(.cells [zz133, (zz2 (tkR (↑(1 : Nat) : Int) b e)), (zz1 (tkA (↑(1 : Nat) : Int) b e a)), (zz1 (tkE (↑(1 : Nat) : Int) b e))]), zz201], []⟩
 else ((((@Eq (Bool) true true) ∧
 IsB (tkR (↑(1 : Nat) : Int) b e)) ∧
 (@Eq (Bs) (tkB (IntKind.wrap IntKind.i64 (Int.tdiv (IntKind.wrap IntKind.i64 (IntKind.wrap IntKind.i64 (nmB (1 : Nat) b e + (8 : Int)) - (1 : Int))) (8 : Int))) (tkR (↑(1 : Nat) : Int) b e) (tkE (↑(1 : Nat) : Int) b e)) [(zz197 z0)])) ∧
 (((@Eq (Bool) true true) ∧
 IsB (tkR (IntKind.wrap IntKind.i64 (Int.tdiv (IntKind.wrap IntKind.i64 (IntKind.wrap IntKind.i64 (nmB (1 : Nat) b e + (8 : Int)) - (1 : Int))) (8 : Int))) (tkR (↑(1 : Nat) : Int) b e) (tkE (↑(1 : Nat) : Int) b e))) ∧
 (bif eqRes BinOp.neq (k6 (tkE (IntKind.wrap IntKind.i64 (Int.tdiv (IntKind.wrap IntKind.i64 (IntKind.wrap IntKind.i64 (nmB (1 : Nat) b e + (8 : Int)) - (1 : Int))) (8 : Int))) (tkR (↑(1 : Nat) : Int) b e) (tkE (↑(1 : Nat) : Int) b e)) (0 : Int))
 then Q zz202 ⟨[(.cells [zz133, (zzy4 b e), (zzy3 b e a), (zzy5 b e)]), zz201, (zz196 z0)], []⟩
 else (M32 (nmB (1 : Nat) b e) ∧
 Q (zz199 (cnA
  (IntKind.wrap IntKind.u32
    (IntKind.wrap IntKind.u64
      (↑(BitVec.toNat
            (BitVec.ofInt (IntKind.bits IntKind.u64)
                (IntKind.wrap IntKind.u64
                  (IntKind.wrap IntKind.u64
                      (↑(BitVec.toNat
                            (BitVec.ofInt (IntKind.bits IntKind.u64)
                                (IntKind.wrap IntKind.u64
                                  (IntKind.wrap IntKind.u64
                                      (↑(BitVec.toNat
                                            (BitVec.ofInt (IntKind.bits IntKind.u64)
                                                (IntKind.wrap IntKind.u64
                                                  (IntKind.wrap IntKind.u64 (↑(BitVec.toNat (BitVec.ofInt (IntKind.bits IntKind.u64) (IntKind.wrap IntKind.u64 ((0 : Int) * (2 : Int) ^ min (Int.toNat (8 : Int)) (IntKind.bits IntKind.u64))) ||| BitVec.ofInt (IntKind.bits IntKind.u64) (IntKind.wrap IntKind.u64 z0))) : Int) * (2 : Int) ^ min (Int.toNat (8 : Int)) (IntKind.bits IntKind.u64))) |||
                                              BitVec.ofInt (IntKind.bits IntKind.u64) (IntKind.wrap IntKind.u64 (0 : Int)))) :
                                        Int) *
                                    (2 : Int) ^ min (Int.toNat (8 : Int)) (IntKind.bits IntKind.u64))) |||
                              BitVec.ofInt (IntKind.bits IntKind.u64) (IntKind.wrap IntKind.u64 (0 : Int)))) :
                        Int) *
                    (2 : Int) ^ min (Int.toNat (8 : Int)) (IntKind.bits IntKind.u64))) |||
              BitVec.ofInt (IntKind.bits IntKind.u64) (IntKind.wrap IntKind.u64 (0 : Int)))) :
        Int)))
  (nmB (1 : Nat) b e)) (nmB (1 : Nat) b e)) ⟨[(.cells [zz133, (zzy4 b e), (zzy3 b e a), (zzy5 b e)]), (zz203 (cnA
  (IntKind.wrap IntKind.u32
    (IntKind.wrap IntKind.u64
      (↑(BitVec.toNat
            (BitVec.ofInt (IntKind.bits IntKind.u64)
                (IntKind.wrap IntKind.u64
                  (IntKind.wrap IntKind.u64
                      (↑(BitVec.toNat
                            (BitVec.ofInt (IntKind.bits IntKind.u64)
                                (IntKind.wrap IntKind.u64
                                  (IntKind.wrap IntKind.u64
                                      (↑(BitVec.toNat
                                            (BitVec.ofInt (IntKind.bits IntKind.u64)
                                                (IntKind.wrap IntKind.u64
                                                  (IntKind.wrap IntKind.u64 (↑(BitVec.toNat (BitVec.ofInt (IntKind.bits IntKind.u64) (IntKind.wrap IntKind.u64 ((0 : Int) * (2 : Int) ^ min (Int.toNat (8 : Int)) (IntKind.bits IntKind.u64))) ||| BitVec.ofInt (IntKind.bits IntKind.u64) (IntKind.wrap IntKind.u64 z0))) : Int) * (2 : Int) ^ min (Int.toNat (8 : Int)) (IntKind.bits IntKind.u64))) |||
                                              BitVec.ofInt (IntKind.bits IntKind.u64) (IntKind.wrap IntKind.u64 (0 : Int)))) :
                                        Int) *
                                    (2 : Int) ^ min (Int.toNat (8 : Int)) (IntKind.bits IntKind.u64))) |||
                              BitVec.ofInt (IntKind.bits IntKind.u64) (IntKind.wrap IntKind.u64 (0 : Int)))) :
                        Int) *
                    (2 : Int) ^ min (Int.toNat (8 : Int)) (IntKind.bits IntKind.u64))) |||
              BitVec.ofInt (IntKind.bits IntKind.u64) (IntKind.wrap IntKind.u64 (0 : Int)))) :
        Int)))
  (nmB (1 : Nat) b e)) (nmB (1 : Nat) b e)), (zz196 z0)], []⟩)))))))) := by kernel_rfl
abbrev zzy8 (z0 : Int) (B : Bs) (n : Int) (e : Int) : VO := (zz203 (IntKind.wrap IntKind.u32 (↑(BitVec.toNat (BitVec.ofInt (IntKind.bits IntKind.u32) (0 : Int) ||| BitVec.ofInt (IntKind.bits IntKind.u32) (IntKind.wrap IntKind.u32 (IntKind.wrap IntKind.u32 z0 * (2 : Int) ^ min (Int.toNat (IntKind.wrap IntKind.u64 (IntKind.wrap IntKind.i64 ((24 : Int) - IntKind.wrap IntKind.i64 ((8 : Int) * (0 : Int)))))) (IntKind.bits IntKind.u32))))) : Int)) (nmB (1 : Nat) (remB B n) e))
theorem ev_qrd1 (B : Bs) (n e : Int) (z0 : Int) (Q : TV → VT → Prop) : vcallF Tryz.prog noGl (specs [(rU8F, rnW .i64 1), (rByF, rbE [bT z0]), (qCaF, caW)]) noOra 300 noLp 0 qRdF [.ptr 0 0] (zz209 (rsO B n e)) Q =
 (((@Eq (Bool) true true) ∧
 (IsB (B) ∧
 InB (B) (n))) ∧
 (bif eqRes BinOp.neq (k6 (tkE (↑(1 : Nat) : Int) (remB B n) e) (0 : Int))
 then Q zz202 ⟨[(.cells [(zz2 B), (zz1 (tkN (↑(1 : Nat) : Int) B n e)), (zz1 (tkE (↑(1 : Nat) : Int) (remB B n) e))]), zz201], []⟩
 else (bif decide (nmB (1 : Nat) (remB B n) e > (32 : Int))
 then Q zz202 ⟨[(.cells [(zz2 B), (zz1 (tkN (↑(1 : Nat) : Int) B n e)), (zz1 (tkE (↑(1 : Nat) : Int) (remB B n) e))]), zz201], []⟩
 else ((((@Eq (Bool) true true) ∧
 (IsB (B) ∧
 InB (B) (tkN (↑(1 : Nat) : Int) B n e))) ∧
 (@Eq (Bs) (tkB (IntKind.wrap IntKind.i64 (Int.tdiv (IntKind.wrap IntKind.i64 (nmB (1 : Nat) (remB B n) e + (7 : Int))) (8 : Int))) (remB B (tkN (↑(1 : Nat) : Int) B n e)) (tkE (↑(1 : Nat) : Int) (remB B n) e)) [(zz197 z0)])) ∧
 (bif eqRes BinOp.neq (k6 (tkE (IntKind.wrap IntKind.i64 (Int.tdiv (IntKind.wrap IntKind.i64 (nmB (1 : Nat) (remB B n) e + (7 : Int))) (8 : Int))) (remB B (tkN (↑(1 : Nat) : Int) B n e)) (tkE (↑(1 : Nat) : Int) (remB B n) e)) (0 : Int))
 then Q zz202 ⟨[(.cells [(zz2 B), (zzy7 B n e), (zzy6 B n e)]), zz201, (zzy8 z0 B n e)], []⟩
 else (M32 (nmB (1 : Nat) (remB B n) e) ∧
 Q (zz199 (cnA (IntKind.wrap IntKind.u32 (↑(BitVec.toNat (BitVec.ofInt (IntKind.bits IntKind.u32) (0 : Int) ||| BitVec.ofInt (IntKind.bits IntKind.u32) (IntKind.wrap IntKind.u32 (IntKind.wrap IntKind.u32 z0 * (2 : Int) ^ min (Int.toNat (IntKind.wrap IntKind.u64 (IntKind.wrap IntKind.i64 ((24 : Int) - IntKind.wrap IntKind.i64 ((8 : Int) * (0 : Int)))))) (IntKind.bits IntKind.u32))))) : Int))
  (nmB (1 : Nat) (remB B n) e)) (nmB (1 : Nat) (remB B n) e)) ⟨[(.cells [(zz2 B), (zzy7 B n e), (zzy6 B n e)]), (zz203 (cnA (IntKind.wrap IntKind.u32 (↑(BitVec.toNat (BitVec.ofInt (IntKind.bits IntKind.u32) (0 : Int) ||| BitVec.ofInt (IntKind.bits IntKind.u32) (IntKind.wrap IntKind.u32 (IntKind.wrap IntKind.u32 z0 * (2 : Int) ^ min (Int.toNat (IntKind.wrap IntKind.u64 (IntKind.wrap IntKind.i64 ((24 : Int) - IntKind.wrap IntKind.i64 ((8 : Int) * (0 : Int)))))) (IntKind.bits IntKind.u32))))) : Int))
  (nmB (1 : Nat) (remB B n) e)) (nmB (1 : Nat) (remB B n) e)), (zzy8 z0 B n e)], []⟩)))))) := by kernel_rfl
theorem ev_prd2 (b : Bs) (a e : Int) (z0 z1 : Int) (Q : TV → VT → Prop) : vcallF Tryz.prog noGl (specs [(wU8F, snW .i64 1), (wErF, seW), (wByF, sbE [bT z0, bT z1]), (pCaF, caW)]) noOra 300 noLp 0 pRdF [.ptr 0 0] (zz209 (srcO b a e)) Q =
 (((@Eq (Bool) true true) ∧
 IsB (b)) ∧
 (((@Eq (Bool) true true) ∧
 IsB (tkR (↑(1 : Nat) : Int) b e)) ∧
 (bif eqRes BinOp.neq (k6 (tkE (↑(1 : Nat) : Int) b e) (0 : Int))
 then Q zz202 ⟨[(.cells [zz133, (zz2 (tkR (↑(1 : Nat) : Int) b e)), (zz1 (tkA (↑(1 : Nat) : Int) b e a)), (zz1 (tkE (↑(1 : Nat) : Int) b e))]), zz201], []⟩
 else (bif decide (nmB (1 : Nat) b e > (32 : Int))
 then Q zz202 ⟨[(.cells [zz133, (zz2 (tkR (↑(1 : Nat) : Int) b e)), (zz1 (tkA (↑(1 : Nat) : Int) b e a)), (zz1 (tkE (↑(1 : Nat) : Int) b e))]), zz201], []⟩
 else ((((@Eq (Bool) true true) ∧
 IsB (tkR (↑(1 : Nat) : Int) b e)) ∧
 (@Eq (Bs) (tkB (IntKind.wrap IntKind.i64 (Int.tdiv (IntKind.wrap IntKind.i64 (IntKind.wrap IntKind.i64 (nmB (1 : Nat) b e + (8 : Int)) - (1 : Int))) (8 : Int))) (tkR (↑(1 : Nat) : Int) b e) (tkE (↑(1 : Nat) : Int) b e)) [(zz197 z0), (zz197 z1)])) ∧
 (((@Eq (Bool) true true) ∧
 IsB (tkR (IntKind.wrap IntKind.i64 (Int.tdiv (IntKind.wrap IntKind.i64 (IntKind.wrap IntKind.i64 (nmB (1 : Nat) b e + (8 : Int)) - (1 : Int))) (8 : Int))) (tkR (↑(1 : Nat) : Int) b e) (tkE (↑(1 : Nat) : Int) b e))) ∧
 (bif eqRes BinOp.neq (k6 (tkE (IntKind.wrap IntKind.i64 (Int.tdiv (IntKind.wrap IntKind.i64 (IntKind.wrap IntKind.i64 (nmB (1 : Nat) b e + (8 : Int)) - (1 : Int))) (8 : Int))) (tkR (↑(1 : Nat) : Int) b e) (tkE (↑(1 : Nat) : Int) b e)) (0 : Int))
 then Q zz202 ⟨[(.cells [zz133, (zzy4 b e), (zzy3 b e a), (zzy5 b e)]), zz201, (.cells [(zz63 z0), (zz63 z1), zz195, zz195])], []⟩
 else (M32 (nmB (1 : Nat) b e) ∧
 Q (zz199 (cnA
  (IntKind.wrap IntKind.u32
    (IntKind.wrap IntKind.u64
      (↑(BitVec.toNat
            (BitVec.ofInt (IntKind.bits IntKind.u64)
                (IntKind.wrap IntKind.u64
                  (IntKind.wrap IntKind.u64
                      (↑(BitVec.toNat
                            (BitVec.ofInt (IntKind.bits IntKind.u64)
                                (IntKind.wrap IntKind.u64
                                  (IntKind.wrap IntKind.u64
                                      (↑(BitVec.toNat
                                            (BitVec.ofInt (IntKind.bits IntKind.u64)
                                                (IntKind.wrap IntKind.u64
                                                  (IntKind.wrap IntKind.u64 (↑(BitVec.toNat (BitVec.ofInt (IntKind.bits IntKind.u64) (IntKind.wrap IntKind.u64 ((0 : Int) * (2 : Int) ^ min (Int.toNat (8 : Int)) (IntKind.bits IntKind.u64))) ||| BitVec.ofInt (IntKind.bits IntKind.u64) (IntKind.wrap IntKind.u64 z0))) : Int) * (2 : Int) ^ min (Int.toNat (8 : Int)) (IntKind.bits IntKind.u64))) |||
                                              BitVec.ofInt (IntKind.bits IntKind.u64) (IntKind.wrap IntKind.u64 z1))) :
                                        Int) *
                                    (2 : Int) ^ min (Int.toNat (8 : Int)) (IntKind.bits IntKind.u64))) |||
                              BitVec.ofInt (IntKind.bits IntKind.u64) (IntKind.wrap IntKind.u64 (0 : Int)))) :
                        Int) *
                    (2 : Int) ^ min (Int.toNat (8 : Int)) (IntKind.bits IntKind.u64))) |||
              BitVec.ofInt (IntKind.bits IntKind.u64) (IntKind.wrap IntKind.u64 (0 : Int)))) :
        Int)))
  (nmB (1 : Nat) b e)) (nmB (1 : Nat) b e)) ⟨[(.cells [zz133, (zzy4 b e), (zzy3 b e a), (zzy5 b e)]), (zz203 (cnA
  (IntKind.wrap IntKind.u32
    (IntKind.wrap IntKind.u64
      (↑(BitVec.toNat
            (BitVec.ofInt (IntKind.bits IntKind.u64)
                (IntKind.wrap IntKind.u64
                  (IntKind.wrap IntKind.u64
                      (↑(BitVec.toNat
                            (BitVec.ofInt (IntKind.bits IntKind.u64)
                                (IntKind.wrap IntKind.u64
                                  (IntKind.wrap IntKind.u64
                                      (↑(BitVec.toNat
                                            (BitVec.ofInt (IntKind.bits IntKind.u64)
                                                (IntKind.wrap IntKind.u64
                                                  (IntKind.wrap IntKind.u64 (↑(BitVec.toNat (BitVec.ofInt (IntKind.bits IntKind.u64) (IntKind.wrap IntKind.u64 ((0 : Int) * (2 : Int) ^ min (Int.toNat (8 : Int)) (IntKind.bits IntKind.u64))) ||| BitVec.ofInt (IntKind.bits IntKind.u64) (IntKind.wrap IntKind.u64 z0))) : Int) * (2 : Int) ^ min (Int.toNat (8 : Int)) (IntKind.bits IntKind.u64))) |||
                                              BitVec.ofInt (IntKind.bits IntKind.u64) (IntKind.wrap IntKind.u64 z1))) :
                                        Int) *
                                    (2 : Int) ^ min (Int.toNat (8 : Int)) (IntKind.bits IntKind.u64))) |||
                              BitVec.ofInt (IntKind.bits IntKind.u64) (IntKind.wrap IntKind.u64 (0 : Int)))) :
                        Int) *
                    (2 : Int) ^ min (Int.toNat (8 : Int)) (IntKind.bits IntKind.u64))) |||
              BitVec.ofInt (IntKind.bits IntKind.u64) (IntKind.wrap IntKind.u64 (0 : Int)))) :
        Int)))
  (nmB (1 : Nat) b e)) (nmB (1 : Nat) b e)), (.cells [(zz63 z0), (zz63 z1), zz195, zz195])], []⟩)))))))) := by kernel_rfl
abbrev zzy9 (z0 : Int) (z1 : Int) (B : Bs) (n : Int) (e : Int) : VO := (zz203 (IntKind.wrap IntKind.u32
  (↑(BitVec.toNat
        (BitVec.ofInt (IntKind.bits IntKind.u32)
            (IntKind.wrap IntKind.u32 (↑(BitVec.toNat (BitVec.ofInt (IntKind.bits IntKind.u32) (0 : Int) ||| BitVec.ofInt (IntKind.bits IntKind.u32) (IntKind.wrap IntKind.u32 (IntKind.wrap IntKind.u32 z0 * (2 : Int) ^ min (Int.toNat (IntKind.wrap IntKind.u64 (IntKind.wrap IntKind.i64 ((24 : Int) - IntKind.wrap IntKind.i64 ((8 : Int) * (0 : Int)))))) (IntKind.bits IntKind.u32))))) : Int)) |||
          BitVec.ofInt (IntKind.bits IntKind.u32) (IntKind.wrap IntKind.u32 (IntKind.wrap IntKind.u32 z1 * (2 : Int) ^ min (Int.toNat (IntKind.wrap IntKind.u64 (IntKind.wrap IntKind.i64 ((24 : Int) - IntKind.wrap IntKind.i64 ((8 : Int) * IntKind.wrap IntKind.i64 ((0 : Int) + (1 : Int))))))) (IntKind.bits IntKind.u32))))) :
    Int)) (nmB (1 : Nat) (remB B n) e))
theorem ev_qrd2 (B : Bs) (n e : Int) (z0 z1 : Int) (Q : TV → VT → Prop) : vcallF Tryz.prog noGl (specs [(rU8F, rnW .i64 1), (rByF, rbE [bT z0, bT z1]), (qCaF, caW)]) noOra 300 noLp 0 qRdF [.ptr 0 0] (zz209 (rsO B n e)) Q =
 (((@Eq (Bool) true true) ∧
 (IsB (B) ∧
 InB (B) (n))) ∧
 (bif eqRes BinOp.neq (k6 (tkE (↑(1 : Nat) : Int) (remB B n) e) (0 : Int))
 then Q zz202 ⟨[(.cells [(zz2 B), (zz1 (tkN (↑(1 : Nat) : Int) B n e)), (zz1 (tkE (↑(1 : Nat) : Int) (remB B n) e))]), zz201], []⟩
 else (bif decide (nmB (1 : Nat) (remB B n) e > (32 : Int))
 then Q zz202 ⟨[(.cells [(zz2 B), (zz1 (tkN (↑(1 : Nat) : Int) B n e)), (zz1 (tkE (↑(1 : Nat) : Int) (remB B n) e))]), zz201], []⟩
 else ((((@Eq (Bool) true true) ∧
 (IsB (B) ∧
 InB (B) (tkN (↑(1 : Nat) : Int) B n e))) ∧
 (@Eq (Bs) (tkB (IntKind.wrap IntKind.i64 (Int.tdiv (IntKind.wrap IntKind.i64 (nmB (1 : Nat) (remB B n) e + (7 : Int))) (8 : Int))) (remB B (tkN (↑(1 : Nat) : Int) B n e)) (tkE (↑(1 : Nat) : Int) (remB B n) e)) [(zz197 z0), (zz197 z1)])) ∧
 (bif eqRes BinOp.neq (k6 (tkE (IntKind.wrap IntKind.i64 (Int.tdiv (IntKind.wrap IntKind.i64 (nmB (1 : Nat) (remB B n) e + (7 : Int))) (8 : Int))) (remB B (tkN (↑(1 : Nat) : Int) B n e)) (tkE (↑(1 : Nat) : Int) (remB B n) e)) (0 : Int))
 then Q zz202 ⟨[(.cells [(zz2 B), (zzy7 B n e), (zzy6 B n e)]), zz201, (zzy9 z0 z1 B n e)], []⟩
 else (M32 (nmB (1 : Nat) (remB B n) e) ∧
 Q (zz199 (cnA
  (IntKind.wrap IntKind.u32
    (↑(BitVec.toNat
          (BitVec.ofInt (IntKind.bits IntKind.u32)
              (IntKind.wrap IntKind.u32 (↑(BitVec.toNat (BitVec.ofInt (IntKind.bits IntKind.u32) (0 : Int) ||| BitVec.ofInt (IntKind.bits IntKind.u32) (IntKind.wrap IntKind.u32 (IntKind.wrap IntKind.u32 z0 * (2 : Int) ^ min (Int.toNat (IntKind.wrap IntKind.u64 (IntKind.wrap IntKind.i64 ((24 : Int) - IntKind.wrap IntKind.i64 ((8 : Int) * (0 : Int)))))) (IntKind.bits IntKind.u32))))) : Int)) |||
            BitVec.ofInt (IntKind.bits IntKind.u32) (IntKind.wrap IntKind.u32 (IntKind.wrap IntKind.u32 z1 * (2 : Int) ^ min (Int.toNat (IntKind.wrap IntKind.u64 (IntKind.wrap IntKind.i64 ((24 : Int) - IntKind.wrap IntKind.i64 ((8 : Int) * IntKind.wrap IntKind.i64 ((0 : Int) + (1 : Int))))))) (IntKind.bits IntKind.u32))))) :
      Int))
  (nmB (1 : Nat) (remB B n) e)) (nmB (1 : Nat) (remB B n) e)) ⟨[(.cells [(zz2 B), (zzy7 B n e), (zzy6 B n e)]), (zz203 (cnA
  (IntKind.wrap IntKind.u32
    (↑(BitVec.toNat
          (BitVec.ofInt (IntKind.bits IntKind.u32)
              (IntKind.wrap IntKind.u32 (↑(BitVec.toNat (BitVec.ofInt (IntKind.bits IntKind.u32) (0 : Int) ||| BitVec.ofInt (IntKind.bits IntKind.u32) (IntKind.wrap IntKind.u32 (IntKind.wrap IntKind.u32 z0 * (2 : Int) ^ min (Int.toNat (IntKind.wrap IntKind.u64 (IntKind.wrap IntKind.i64 ((24 : Int) - IntKind.wrap IntKind.i64 ((8 : Int) * (0 : Int)))))) (IntKind.bits IntKind.u32))))) : Int)) |||
            BitVec.ofInt (IntKind.bits IntKind.u32) (IntKind.wrap IntKind.u32 (IntKind.wrap IntKind.u32 z1 * (2 : Int) ^ min (Int.toNat (IntKind.wrap IntKind.u64 (IntKind.wrap IntKind.i64 ((24 : Int) - IntKind.wrap IntKind.i64 ((8 : Int) * IntKind.wrap IntKind.i64 ((0 : Int) + (1 : Int))))))) (IntKind.bits IntKind.u32))))) :
      Int))
  (nmB (1 : Nat) (remB B n) e)) (nmB (1 : Nat) (remB B n) e)), (zzy9 z0 z1 B n e)], []⟩)))))) := by kernel_rfl
theorem ev_prd3 (b : Bs) (a e : Int) (z0 z1 z2 : Int) (Q : TV → VT → Prop) : vcallF Tryz.prog noGl (specs [(wU8F, snW .i64 1), (wErF, seW), (wByF, sbE [bT z0, bT z1, bT z2]), (pCaF, caW)]) noOra 300 noLp 0 pRdF [.ptr 0 0] (zz209 (srcO b a e)) Q =
 (((@Eq (Bool) true true) ∧
 IsB (b)) ∧
 (((@Eq (Bool) true true) ∧
 IsB (tkR (↑(1 : Nat) : Int) b e)) ∧
 (bif eqRes BinOp.neq (k6 (tkE (↑(1 : Nat) : Int) b e) (0 : Int))
 then Q zz202 ⟨[(.cells [zz133, (zz2 (tkR (↑(1 : Nat) : Int) b e)), (zz1 (tkA (↑(1 : Nat) : Int) b e a)), (zz1 (tkE (↑(1 : Nat) : Int) b e))]), zz201], []⟩
 else (bif decide (nmB (1 : Nat) b e > (32 : Int))
 then Q zz202 ⟨[(.cells [zz133, (zz2 (tkR (↑(1 : Nat) : Int) b e)), (zz1 (tkA (↑(1 : Nat) : Int) b e a)), (zz1 (tkE (↑(1 : Nat) : Int) b e))]), zz201], []⟩
 else ((((@Eq (Bool) true true) ∧
 IsB (tkR (↑(1 : Nat) : Int) b e)) ∧
 (@Eq (Bs) (tkB (IntKind.wrap IntKind.i64 (Int.tdiv (IntKind.wrap IntKind.i64 (IntKind.wrap IntKind.i64 (nmB (1 : Nat) b e + (8 : Int)) - (1 : Int))) (8 : Int))) (tkR (↑(1 : Nat) : Int) b e) (tkE (↑(1 : Nat) : Int) b e)) [(zz197 z0), (zz197 z1), (zz197 z2)])) ∧
 (((@Eq (Bool) true true) ∧
 IsB (tkR (IntKind.wrap IntKind.i64 (Int.tdiv (IntKind.wrap IntKind.i64 (IntKind.wrap IntKind.i64 (nmB (1 : Nat) b e + (8 : Int)) - (1 : Int))) (8 : Int))) (tkR (↑(1 : Nat) : Int) b e) (tkE (↑(1 : Nat) : Int) b e))) ∧
 (bif eqRes BinOp.neq (k6 (tkE (IntKind.wrap IntKind.i64 (Int.tdiv (IntKind.wrap IntKind.i64 (IntKind.wrap IntKind.i64 (nmB (1 : Nat) b e + (8 : Int)) - (1 : Int))) (8 : Int))) (tkR (↑(1 : Nat) : Int) b e) (tkE (↑(1 : Nat) : Int) b e)) (0 : Int))
 then Q zz202 ⟨[(.cells [zz133, (zzy4 b e), (zzy3 b e a), (zzy5 b e)]), zz201, (.cells [(zz63 z0), (zz63 z1), (zz63 z2), zz195])], []⟩
 else (M32 (nmB (1 : Nat) b e) ∧
 Q (zz199 (cnA
  (IntKind.wrap IntKind.u32
    (IntKind.wrap IntKind.u64
      (↑(BitVec.toNat
            (BitVec.ofInt (IntKind.bits IntKind.u64)
                (IntKind.wrap IntKind.u64
                  (IntKind.wrap IntKind.u64
                      (↑(BitVec.toNat
                            (BitVec.ofInt (IntKind.bits IntKind.u64)
                                (IntKind.wrap IntKind.u64
                                  (IntKind.wrap IntKind.u64
                                      (↑(BitVec.toNat
                                            (BitVec.ofInt (IntKind.bits IntKind.u64)
                                                (IntKind.wrap IntKind.u64
                                                  (IntKind.wrap IntKind.u64 (↑(BitVec.toNat (BitVec.ofInt (IntKind.bits IntKind.u64) (IntKind.wrap IntKind.u64 ((0 : Int) * (2 : Int) ^ min (Int.toNat (8 : Int)) (IntKind.bits IntKind.u64))) ||| BitVec.ofInt (IntKind.bits IntKind.u64) (IntKind.wrap IntKind.u64 z0))) : Int) * (2 : Int) ^ min (Int.toNat (8 : Int)) (IntKind.bits IntKind.u64))) |||
                                              BitVec.ofInt (IntKind.bits IntKind.u64) (IntKind.wrap IntKind.u64 z1))) :
                                        Int) *
                                    (2 : Int) ^ min (Int.toNat (8 : Int)) (IntKind.bits IntKind.u64))) |||
                              BitVec.ofInt (IntKind.bits IntKind.u64) (IntKind.wrap IntKind.u64 z2))) :
                        Int) *
                    (2 : Int) ^ min (Int.toNat (8 : Int)) (IntKind.bits IntKind.u64))) |||
              BitVec.ofInt (IntKind.bits IntKind.u64) (IntKind.wrap IntKind.u64 (0 : Int)))) :
        Int)))
  (nmB (1 : Nat) b e)) (nmB (1 : Nat) b e)) ⟨[(.cells [zz133, (zzy4 b e), (zzy3 b e a), (zzy5 b e)]), (zz203 (cnA
  (IntKind.wrap IntKind.u32
    (IntKind.wrap IntKind.u64
      (↑(BitVec.toNat
            (BitVec.ofInt (IntKind.bits IntKind.u64)
                (IntKind.wrap IntKind.u64
                  (IntKind.wrap IntKind.u64
                      (↑(BitVec.toNat
                            (BitVec.ofInt (IntKind.bits IntKind.u64)
                                (IntKind.wrap IntKind.u64
                                  (IntKind.wrap IntKind.u64
                                      (↑(BitVec.toNat
                                            (BitVec.ofInt (IntKind.bits IntKind.u64)
                                                (IntKind.wrap IntKind.u64
                                                  (IntKind.wrap IntKind.u64 (↑(BitVec.toNat (BitVec.ofInt (IntKind.bits IntKind.u64) (IntKind.wrap IntKind.u64 ((0 : Int) * (2 : Int) ^ min (Int.toNat (8 : Int)) (IntKind.bits IntKind.u64))) ||| BitVec.ofInt (IntKind.bits IntKind.u64) (IntKind.wrap IntKind.u64 z0))) : Int) * (2 : Int) ^ min (Int.toNat (8 : Int)) (IntKind.bits IntKind.u64))) |||
                                              BitVec.ofInt (IntKind.bits IntKind.u64) (IntKind.wrap IntKind.u64 z1))) :
                                        Int) *
                                    (2 : Int) ^ min (Int.toNat (8 : Int)) (IntKind.bits IntKind.u64))) |||
                              BitVec.ofInt (IntKind.bits IntKind.u64) (IntKind.wrap IntKind.u64 z2))) :
                        Int) *
                    (2 : Int) ^ min (Int.toNat (8 : Int)) (IntKind.bits IntKind.u64))) |||
              BitVec.ofInt (IntKind.bits IntKind.u64) (IntKind.wrap IntKind.u64 (0 : Int)))) :
        Int)))
  (nmB (1 : Nat) b e)) (nmB (1 : Nat) b e)), (.cells [(zz63 z0), (zz63 z1), (zz63 z2), zz195])], []⟩)))))))) := by kernel_rfl
abbrev zzy10 (z0 : Int) (z1 : Int) (z2 : Int) (B : Bs) (n : Int) (e : Int) : VO := (zz203 (IntKind.wrap IntKind.u32
  (↑(BitVec.toNat
        (BitVec.ofInt (IntKind.bits IntKind.u32)
            (IntKind.wrap IntKind.u32
              (↑(BitVec.toNat
                    (BitVec.ofInt (IntKind.bits IntKind.u32)
                        (IntKind.wrap IntKind.u32
                          (↑(BitVec.toNat (BitVec.ofInt (IntKind.bits IntKind.u32) (0 : Int) ||| BitVec.ofInt (IntKind.bits IntKind.u32) (IntKind.wrap IntKind.u32 (IntKind.wrap IntKind.u32 z0 * (2 : Int) ^ min (Int.toNat (IntKind.wrap IntKind.u64 (IntKind.wrap IntKind.i64 ((24 : Int) - IntKind.wrap IntKind.i64 ((8 : Int) * (0 : Int)))))) (IntKind.bits IntKind.u32))))) : Int)) |||
                      BitVec.ofInt (IntKind.bits IntKind.u32) (IntKind.wrap IntKind.u32 (IntKind.wrap IntKind.u32 z1 * (2 : Int) ^ min (Int.toNat (IntKind.wrap IntKind.u64 (IntKind.wrap IntKind.i64 ((24 : Int) - IntKind.wrap IntKind.i64 ((8 : Int) * IntKind.wrap IntKind.i64 ((0 : Int) + (1 : Int))))))) (IntKind.bits IntKind.u32))))) :
                Int)) |||
          BitVec.ofInt (IntKind.bits IntKind.u32) (IntKind.wrap IntKind.u32 (IntKind.wrap IntKind.u32 z2 * (2 : Int) ^ min (Int.toNat (IntKind.wrap IntKind.u64 (IntKind.wrap IntKind.i64 ((24 : Int) - IntKind.wrap IntKind.i64 ((8 : Int) * IntKind.wrap IntKind.i64 (IntKind.wrap IntKind.i64 ((0 : Int) + (1 : Int)) + (1 : Int))))))) (IntKind.bits IntKind.u32))))) :
    Int)) (nmB (1 : Nat) (remB B n) e))
theorem ev_qrd3 (B : Bs) (n e : Int) (z0 z1 z2 : Int) (Q : TV → VT → Prop) : vcallF Tryz.prog noGl (specs [(rU8F, rnW .i64 1), (rByF, rbE [bT z0, bT z1, bT z2]), (qCaF, caW)]) noOra 300 noLp 0 qRdF [.ptr 0 0] (zz209 (rsO B n e)) Q =
 (((@Eq (Bool) true true) ∧
 (IsB (B) ∧
 InB (B) (n))) ∧
 (bif eqRes BinOp.neq (k6 (tkE (↑(1 : Nat) : Int) (remB B n) e) (0 : Int))
 then Q zz202 ⟨[(.cells [(zz2 B), (zz1 (tkN (↑(1 : Nat) : Int) B n e)), (zz1 (tkE (↑(1 : Nat) : Int) (remB B n) e))]), zz201], []⟩
 else (bif decide (nmB (1 : Nat) (remB B n) e > (32 : Int))
 then Q zz202 ⟨[(.cells [(zz2 B), (zz1 (tkN (↑(1 : Nat) : Int) B n e)), (zz1 (tkE (↑(1 : Nat) : Int) (remB B n) e))]), zz201], []⟩
 else ((((@Eq (Bool) true true) ∧
 (IsB (B) ∧
 InB (B) (tkN (↑(1 : Nat) : Int) B n e))) ∧
 (@Eq (Bs) (tkB (IntKind.wrap IntKind.i64 (Int.tdiv (IntKind.wrap IntKind.i64 (nmB (1 : Nat) (remB B n) e + (7 : Int))) (8 : Int))) (remB B (tkN (↑(1 : Nat) : Int) B n e)) (tkE (↑(1 : Nat) : Int) (remB B n) e)) [(zz197 z0), (zz197 z1), (zz197 z2)])) ∧
 (bif eqRes BinOp.neq (k6 (tkE (IntKind.wrap IntKind.i64 (Int.tdiv (IntKind.wrap IntKind.i64 (nmB (1 : Nat) (remB B n) e + (7 : Int))) (8 : Int))) (remB B (tkN (↑(1 : Nat) : Int) B n e)) (tkE (↑(1 : Nat) : Int) (remB B n) e)) (0 : Int))
 then Q zz202 ⟨[(.cells [(zz2 B), (zzy7 B n e), (zzy6 B n e)]), zz201, (zzy10 z0 z1 z2 B n e)], []⟩
 else (M32 (nmB (1 : Nat) (remB B n) e) ∧
 Q (zz199 (cnA
  (IntKind.wrap IntKind.u32
    (↑(BitVec.toNat
          (BitVec.ofInt (IntKind.bits IntKind.u32)
              (IntKind.wrap IntKind.u32
                (↑(BitVec.toNat
                      (BitVec.ofInt (IntKind.bits IntKind.u32)
                          (IntKind.wrap IntKind.u32
                            (↑(BitVec.toNat (BitVec.ofInt (IntKind.bits IntKind.u32) (0 : Int) ||| BitVec.ofInt (IntKind.bits IntKind.u32) (IntKind.wrap IntKind.u32 (IntKind.wrap IntKind.u32 z0 * (2 : Int) ^ min (Int.toNat (IntKind.wrap IntKind.u64 (IntKind.wrap IntKind.i64 ((24 : Int) - IntKind.wrap IntKind.i64 ((8 : Int) * (0 : Int)))))) (IntKind.bits IntKind.u32))))) : Int)) |||
                        BitVec.ofInt (IntKind.bits IntKind.u32) (IntKind.wrap IntKind.u32 (IntKind.wrap IntKind.u32 z1 * (2 : Int) ^ min (Int.toNat (IntKind.wrap IntKind.u64 (IntKind.wrap IntKind.i64 ((24 : Int) - IntKind.wrap IntKind.i64 ((8 : Int) * IntKind.wrap IntKind.i64 ((0 : Int) + (1 : Int))))))) (IntKind.bits IntKind.u32))))) :
                  Int)) |||
            BitVec.ofInt (IntKind.bits IntKind.u32) (IntKind.wrap IntKind.u32 (IntKind.wrap IntKind.u32 z2 * (2 : Int) ^ min (Int.toNat (IntKind.wrap IntKind.u64 (IntKind.wrap IntKind.i64 ((24 : Int) - IntKind.wrap IntKind.i64 ((8 : Int) * IntKind.wrap IntKind.i64 (IntKind.wrap IntKind.i64 ((0 : Int) + (1 : Int)) + (1 : Int))))))) (IntKind.bits IntKind.u32))))) :
      Int))
  (nmB (1 : Nat) (remB B n) e)) (nmB (1 : Nat) (remB B n) e)) ⟨[(.cells [(zz2 B), (zzy7 B n e), (zzy6 B n e)]), (zz203 (cnA
  (IntKind.wrap IntKind.u32
    (↑(BitVec.toNat
          (BitVec.ofInt (IntKind.bits IntKind.u32)
              (IntKind.wrap IntKind.u32
                (↑(BitVec.toNat
                      (BitVec.ofInt (IntKind.bits IntKind.u32)
                          (IntKind.wrap IntKind.u32
                            (↑(BitVec.toNat (BitVec.ofInt (IntKind.bits IntKind.u32) (0 : Int) ||| BitVec.ofInt (IntKind.bits IntKind.u32) (IntKind.wrap IntKind.u32 (IntKind.wrap IntKind.u32 z0 * (2 : Int) ^ min (Int.toNat (IntKind.wrap IntKind.u64 (IntKind.wrap IntKind.i64 ((24 : Int) - IntKind.wrap IntKind.i64 ((8 : Int) * (0 : Int)))))) (IntKind.bits IntKind.u32))))) : Int)) |||
                        BitVec.ofInt (IntKind.bits IntKind.u32) (IntKind.wrap IntKind.u32 (IntKind.wrap IntKind.u32 z1 * (2 : Int) ^ min (Int.toNat (IntKind.wrap IntKind.u64 (IntKind.wrap IntKind.i64 ((24 : Int) - IntKind.wrap IntKind.i64 ((8 : Int) * IntKind.wrap IntKind.i64 ((0 : Int) + (1 : Int))))))) (IntKind.bits IntKind.u32))))) :
                  Int)) |||
            BitVec.ofInt (IntKind.bits IntKind.u32) (IntKind.wrap IntKind.u32 (IntKind.wrap IntKind.u32 z2 * (2 : Int) ^ min (Int.toNat (IntKind.wrap IntKind.u64 (IntKind.wrap IntKind.i64 ((24 : Int) - IntKind.wrap IntKind.i64 ((8 : Int) * IntKind.wrap IntKind.i64 (IntKind.wrap IntKind.i64 ((0 : Int) + (1 : Int)) + (1 : Int))))))) (IntKind.bits IntKind.u32))))) :
      Int))
  (nmB (1 : Nat) (remB B n) e)) (nmB (1 : Nat) (remB B n) e)), (zzy10 z0 z1 z2 B n e)], []⟩)))))) := by kernel_rfl
theorem ev_prd4 (b : Bs) (a e : Int) (z0 z1 z2 z3 : Int) (Q : TV → VT → Prop) : vcallF Tryz.prog noGl (specs [(wU8F, snW .i64 1), (wErF, seW), (wByF, sbE [bT z0, bT z1, bT z2, bT z3]), (pCaF, caW)]) noOra 300 noLp 0 pRdF [.ptr 0 0] (zz209 (srcO b a e)) Q =
 (((@Eq (Bool) true true) ∧
 IsB (b)) ∧
 (((@Eq (Bool) true true) ∧
 IsB (tkR (↑(1 : Nat) : Int) b e)) ∧
 (bif eqRes BinOp.neq (k6 (tkE (↑(1 : Nat) : Int) b e) (0 : Int))
 then Q zz202 ⟨[(.cells [zz133, (zz2 (tkR (↑(1 : Nat) : Int) b e)), (zz1 (tkA (↑(1 : Nat) : Int) b e a)), (zz1 (tkE (↑(1 : Nat) : Int) b e))]), zz201], []⟩
 else (bif decide (nmB (1 : Nat) b e > (32 : Int))
 then Q zz202 ⟨[(.cells [zz133, (zz2 (tkR (↑(1 : Nat) : Int) b e)), (zz1 (tkA (↑(1 : Nat) : Int) b e a)), (zz1 (tkE (↑(1 : Nat) : Int) b e))]), zz201], []⟩
 else ((((@Eq (Bool) true true) ∧
 IsB (tkR (↑(1 : Nat) : Int) b e)) ∧
 (@Eq (Bs) (tkB (IntKind.wrap IntKind.i64 (Int.tdiv (IntKind.wrap IntKind.i64 (IntKind.wrap IntKind.i64 (nmB (1 : Nat) b e + (8 : Int)) - (1 : Int))) (8 : Int))) (tkR (↑(1 : Nat) : Int) b e) (tkE (↑(1 : Nat) : Int) b e)) [(zz197 z0), (zz197 z1), (zz197 z2), (zz197 z3)])) ∧
 (((@Eq (Bool) true true) ∧
 IsB (tkR (IntKind.wrap IntKind.i64 (Int.tdiv (IntKind.wrap IntKind.i64 (IntKind.wrap IntKind.i64 (nmB (1 : Nat) b e + (8 : Int)) - (1 : Int))) (8 : Int))) (tkR (↑(1 : Nat) : Int) b e) (tkE (↑(1 : Nat) : Int) b e))) ∧
 (bif eqRes BinOp.neq (k6 (tkE (IntKind.wrap IntKind.i64 (Int.tdiv (IntKind.wrap IntKind.i64 (IntKind.wrap IntKind.i64 (nmB (1 : Nat) b e + (8 : Int)) - (1 : Int))) (8 : Int))) (tkR (↑(1 : Nat) : Int) b e) (tkE (↑(1 : Nat) : Int) b e)) (0 : Int))
 then Q zz202 ⟨[(.cells [zz133, (zzy4 b e), (zzy3 b e a), (zzy5 b e)]), zz201, (.cells [(zz63 z0), (zz63 z1), (zz63 z2), (zz63 z3)])], []⟩
 else (M32 (nmB (1 : Nat) b e) ∧
 Q (zz199 (cnA
  (IntKind.wrap IntKind.u32
    (IntKind.wrap IntKind.u64
      (↑(BitVec.toNat
            (BitVec.ofInt (IntKind.bits IntKind.u64)
                (IntKind.wrap IntKind.u64
                  (IntKind.wrap IntKind.u64
                      (↑(BitVec.toNat
                            (BitVec.ofInt (IntKind.bits IntKind.u64)
                                (IntKind.wrap IntKind.u64
                                  (IntKind.wrap IntKind.u64
                                      (↑(BitVec.toNat
                                            (BitVec.ofInt (IntKind.bits IntKind.u64)
                                                (IntKind.wrap IntKind.u64
                                                  (IntKind.wrap IntKind.u64 (↑(BitVec.toNat (BitVec.ofInt (IntKind.bits IntKind.u64) (IntKind.wrap IntKind.u64 ((0 : Int) * (2 : Int) ^ min (Int.toNat (8 : Int)) (IntKind.bits IntKind.u64))) ||| BitVec.ofInt (IntKind.bits IntKind.u64) (IntKind.wrap IntKind.u64 z0))) : Int) * (2 : Int) ^ min (Int.toNat (8 : Int)) (IntKind.bits IntKind.u64))) |||
                                              BitVec.ofInt (IntKind.bits IntKind.u64) (IntKind.wrap IntKind.u64 z1))) :
                                        Int) *
                                    (2 : Int) ^ min (Int.toNat (8 : Int)) (IntKind.bits IntKind.u64))) |||
                              BitVec.ofInt (IntKind.bits IntKind.u64) (IntKind.wrap IntKind.u64 z2))) :
                        Int) *
                    (2 : Int) ^ min (Int.toNat (8 : Int)) (IntKind.bits IntKind.u64))) |||
              BitVec.ofInt (IntKind.bits IntKind.u64) (IntKind.wrap IntKind.u64 z3))) :
        Int)))
  (nmB (1 : Nat) b e)) (nmB (1 : Nat) b e)) ⟨[(.cells [zz133, (zzy4 b e), (zzy3 b e a), (zzy5 b e)]), (zz203 (cnA
  (IntKind.wrap IntKind.u32
    (IntKind.wrap IntKind.u64
      (↑(BitVec.toNat
            (BitVec.ofInt (IntKind.bits IntKind.u64)
                (IntKind.wrap IntKind.u64
                  (IntKind.wrap IntKind.u64
                      (↑(BitVec.toNat
                            (BitVec.ofInt (IntKind.bits IntKind.u64)
                                (IntKind.wrap IntKind.u64
                                  (IntKind.wrap IntKind.u64
                                      (↑(BitVec.toNat
                                            (BitVec.ofInt (IntKind.bits IntKind.u64)
                                                (IntKind.wrap IntKind.u64
                                                  (IntKind.wrap IntKind.u64 (↑(BitVec.toNat (BitVec.ofInt (IntKind.bits IntKind.u64) (IntKind.wrap IntKind.u64 ((0 : Int) * (2 : Int) ^ min (Int.toNat (8 : Int)) (IntKind.bits IntKind.u64))) ||| BitVec.ofInt (IntKind.bits IntKind.u64) (IntKind.wrap IntKind.u64 z0))) : Int) * (2 : Int) ^ min (Int.toNat (8 : Int)) (IntKind.bits IntKind.u64))) |||
                                              BitVec.ofInt (IntKind.bits IntKind.u64) (IntKind.wrap IntKind.u64 z1))) :
                                        Int) *
                                    (2 : Int) ^ min (Int.toNat (8 : Int)) (IntKind.bits IntKind.u64))) |||
                              BitVec.ofInt (IntKind.bits IntKind.u64) (IntKind.wrap IntKind.u64 z2))) :
                        Int) *
                    (2 : Int) ^ min (Int.toNat (8 : Int)) (IntKind.bits IntKind.u64))) |||
              BitVec.ofInt (IntKind.bits IntKind.u64) (IntKind.wrap IntKind.u64 z3))) :
        Int)))
  (nmB (1 : Nat) b e)) (nmB (1 : Nat) b e)), (.cells [(zz63 z0), (zz63 z1), (zz63 z2), (zz63 z3)])], []⟩)))))))) := by kernel_rfl
abbrev zzy11 (z0 : Int) (z1 : Int) (z2 : Int) (z3 : Int) (B : Bs) (n : Int) (e : Int) : VO := (zz203 (IntKind.wrap IntKind.u32
  (↑(BitVec.toNat
        (BitVec.ofInt (IntKind.bits IntKind.u32)
            (IntKind.wrap IntKind.u32
              (↑(BitVec.toNat
                    (BitVec.ofInt (IntKind.bits IntKind.u32)
                        (IntKind.wrap IntKind.u32
                          (↑(BitVec.toNat
                                (BitVec.ofInt (IntKind.bits IntKind.u32)
                                    (IntKind.wrap IntKind.u32
                                      (↑(BitVec.toNat (BitVec.ofInt (IntKind.bits IntKind.u32) (0 : Int) ||| BitVec.ofInt (IntKind.bits IntKind.u32) (IntKind.wrap IntKind.u32 (IntKind.wrap IntKind.u32 z0 * (2 : Int) ^ min (Int.toNat (IntKind.wrap IntKind.u64 (IntKind.wrap IntKind.i64 ((24 : Int) - IntKind.wrap IntKind.i64 ((8 : Int) * (0 : Int)))))) (IntKind.bits IntKind.u32))))) : Int)) |||
                                  BitVec.ofInt (IntKind.bits IntKind.u32) (IntKind.wrap IntKind.u32 (IntKind.wrap IntKind.u32 z1 * (2 : Int) ^ min (Int.toNat (IntKind.wrap IntKind.u64 (IntKind.wrap IntKind.i64 ((24 : Int) - IntKind.wrap IntKind.i64 ((8 : Int) * IntKind.wrap IntKind.i64 ((0 : Int) + (1 : Int))))))) (IntKind.bits IntKind.u32))))) :
                            Int)) |||
                      BitVec.ofInt (IntKind.bits IntKind.u32) (IntKind.wrap IntKind.u32 (IntKind.wrap IntKind.u32 z2 * (2 : Int) ^ min (Int.toNat (IntKind.wrap IntKind.u64 (IntKind.wrap IntKind.i64 ((24 : Int) - IntKind.wrap IntKind.i64 ((8 : Int) * IntKind.wrap IntKind.i64 (IntKind.wrap IntKind.i64 ((0 : Int) + (1 : Int)) + (1 : Int))))))) (IntKind.bits IntKind.u32))))) :
                Int)) |||
          BitVec.ofInt (IntKind.bits IntKind.u32)
            (IntKind.wrap IntKind.u32 (IntKind.wrap IntKind.u32 z3 * (2 : Int) ^ min (Int.toNat (IntKind.wrap IntKind.u64 (IntKind.wrap IntKind.i64 ((24 : Int) - IntKind.wrap IntKind.i64 ((8 : Int) * IntKind.wrap IntKind.i64 (IntKind.wrap IntKind.i64 (IntKind.wrap IntKind.i64 ((0 : Int) + (1 : Int)) + (1 : Int)) + (1 : Int))))))) (IntKind.bits IntKind.u32))))) :
    Int)) (nmB (1 : Nat) (remB B n) e))
theorem ev_qrd4 (B : Bs) (n e : Int) (z0 z1 z2 z3 : Int) (Q : TV → VT → Prop) : vcallF Tryz.prog noGl (specs [(rU8F, rnW .i64 1), (rByF, rbE [bT z0, bT z1, bT z2, bT z3]), (qCaF, caW)]) noOra 300 noLp 0 qRdF [.ptr 0 0] (zz209 (rsO B n e)) Q =
 (((@Eq (Bool) true true) ∧
 (IsB (B) ∧
 InB (B) (n))) ∧
 (bif eqRes BinOp.neq (k6 (tkE (↑(1 : Nat) : Int) (remB B n) e) (0 : Int))
 then Q zz202 ⟨[(.cells [(zz2 B), (zz1 (tkN (↑(1 : Nat) : Int) B n e)), (zz1 (tkE (↑(1 : Nat) : Int) (remB B n) e))]), zz201], []⟩
 else (bif decide (nmB (1 : Nat) (remB B n) e > (32 : Int))
 then Q zz202 ⟨[(.cells [(zz2 B), (zz1 (tkN (↑(1 : Nat) : Int) B n e)), (zz1 (tkE (↑(1 : Nat) : Int) (remB B n) e))]), zz201], []⟩
 else ((((@Eq (Bool) true true) ∧
 (IsB (B) ∧
 InB (B) (tkN (↑(1 : Nat) : Int) B n e))) ∧
 (@Eq (Bs) (tkB (IntKind.wrap IntKind.i64 (Int.tdiv (IntKind.wrap IntKind.i64 (nmB (1 : Nat) (remB B n) e + (7 : Int))) (8 : Int))) (remB B (tkN (↑(1 : Nat) : Int) B n e)) (tkE (↑(1 : Nat) : Int) (remB B n) e)) [(zz197 z0), (zz197 z1), (zz197 z2), (zz197 z3)])) ∧
 (bif eqRes BinOp.neq (k6 (tkE (IntKind.wrap IntKind.i64 (Int.tdiv (IntKind.wrap IntKind.i64 (nmB (1 : Nat) (remB B n) e + (7 : Int))) (8 : Int))) (remB B (tkN (↑(1 : Nat) : Int) B n e)) (tkE (↑(1 : Nat) : Int) (remB B n) e)) (0 : Int))
 then Q zz202 ⟨[(.cells [(zz2 B), (zzy7 B n e), (zzy6 B n e)]), zz201, (zzy11 z0 z1 z2 z3 B n e)], []⟩
 else (M32 (nmB (1 : Nat) (remB B n) e) ∧
 Q (zz199 (cnA
  (IntKind.wrap IntKind.u32
    (↑(BitVec.toNat
          (BitVec.ofInt (IntKind.bits IntKind.u32)
              (IntKind.wrap IntKind.u32
                (↑(BitVec.toNat
                      (BitVec.ofInt (IntKind.bits IntKind.u32)
                          (IntKind.wrap IntKind.u32
                            (↑(BitVec.toNat
                                  (BitVec.ofInt (IntKind.bits IntKind.u32)
                                      (IntKind.wrap IntKind.u32
                                        (↑(BitVec.toNat (BitVec.ofInt (IntKind.bits IntKind.u32) (0 : Int) ||| BitVec.ofInt (IntKind.bits IntKind.u32) (IntKind.wrap IntKind.u32 (IntKind.wrap IntKind.u32 z0 * (2 : Int) ^ min (Int.toNat (IntKind.wrap IntKind.u64 (IntKind.wrap IntKind.i64 ((24 : Int) - IntKind.wrap IntKind.i64 ((8 : Int) * (0 : Int)))))) (IntKind.bits IntKind.u32))))) : Int)) |||
                                    BitVec.ofInt (IntKind.bits IntKind.u32) (IntKind.wrap IntKind.u32 (IntKind.wrap IntKind.u32 z1 * (2 : Int) ^ min (Int.toNat (IntKind.wrap IntKind.u64 (IntKind.wrap IntKind.i64 ((24 : Int) - IntKind.wrap IntKind.i64 ((8 : Int) * IntKind.wrap IntKind.i64 ((0 : Int) + (1 : Int))))))) (IntKind.bits IntKind.u32))))) :
                              Int)) |||
                        BitVec.ofInt (IntKind.bits IntKind.u32) (IntKind.wrap IntKind.u32 (IntKind.wrap IntKind.u32 z2 * (2 : Int) ^ min (Int.toNat (IntKind.wrap IntKind.u64 (IntKind.wrap IntKind.i64 ((24 : Int) - IntKind.wrap IntKind.i64 ((8 : Int) * IntKind.wrap IntKind.i64 (IntKind.wrap IntKind.i64 ((0 : Int) + (1 : Int)) + (1 : Int))))))) (IntKind.bits IntKind.u32))))) :
                  Int)) |||
            BitVec.ofInt (IntKind.bits IntKind.u32)
              (IntKind.wrap IntKind.u32 (IntKind.wrap IntKind.u32 z3 * (2 : Int) ^ min (Int.toNat (IntKind.wrap IntKind.u64 (IntKind.wrap IntKind.i64 ((24 : Int) - IntKind.wrap IntKind.i64 ((8 : Int) * IntKind.wrap IntKind.i64 (IntKind.wrap IntKind.i64 (IntKind.wrap IntKind.i64 ((0 : Int) + (1 : Int)) + (1 : Int)) + (1 : Int))))))) (IntKind.bits IntKind.u32))))) :
      Int))
  (nmB (1 : Nat) (remB B n) e)) (nmB (1 : Nat) (remB B n) e)) ⟨[(.cells [(zz2 B), (zzy7 B n e), (zzy6 B n e)]), (zz203 (cnA
  (IntKind.wrap IntKind.u32
    (↑(BitVec.toNat
          (BitVec.ofInt (IntKind.bits IntKind.u32)
              (IntKind.wrap IntKind.u32
                (↑(BitVec.toNat
                      (BitVec.ofInt (IntKind.bits IntKind.u32)
                          (IntKind.wrap IntKind.u32
                            (↑(BitVec.toNat
                                  (BitVec.ofInt (IntKind.bits IntKind.u32)
                                      (IntKind.wrap IntKind.u32
                                        (↑(BitVec.toNat (BitVec.ofInt (IntKind.bits IntKind.u32) (0 : Int) ||| BitVec.ofInt (IntKind.bits IntKind.u32) (IntKind.wrap IntKind.u32 (IntKind.wrap IntKind.u32 z0 * (2 : Int) ^ min (Int.toNat (IntKind.wrap IntKind.u64 (IntKind.wrap IntKind.i64 ((24 : Int) - IntKind.wrap IntKind.i64 ((8 : Int) * (0 : Int)))))) (IntKind.bits IntKind.u32))))) : Int)) |||
                                    BitVec.ofInt (IntKind.bits IntKind.u32) (IntKind.wrap IntKind.u32 (IntKind.wrap IntKind.u32 z1 * (2 : Int) ^ min (Int.toNat (IntKind.wrap IntKind.u64 (IntKind.wrap IntKind.i64 ((24 : Int) - IntKind.wrap IntKind.i64 ((8 : Int) * IntKind.wrap IntKind.i64 ((0 : Int) + (1 : Int))))))) (IntKind.bits IntKind.u32))))) :
                              Int)) |||
                        BitVec.ofInt (IntKind.bits IntKind.u32) (IntKind.wrap IntKind.u32 (IntKind.wrap IntKind.u32 z2 * (2 : Int) ^ min (Int.toNat (IntKind.wrap IntKind.u64 (IntKind.wrap IntKind.i64 ((24 : Int) - IntKind.wrap IntKind.i64 ((8 : Int) * IntKind.wrap IntKind.i64 (IntKind.wrap IntKind.i64 ((0 : Int) + (1 : Int)) + (1 : Int))))))) (IntKind.bits IntKind.u32))))) :
                  Int)) |||
            BitVec.ofInt (IntKind.bits IntKind.u32)
              (IntKind.wrap IntKind.u32 (IntKind.wrap IntKind.u32 z3 * (2 : Int) ^ min (Int.toNat (IntKind.wrap IntKind.u64 (IntKind.wrap IntKind.i64 ((24 : Int) - IntKind.wrap IntKind.i64 ((8 : Int) * IntKind.wrap IntKind.i64 (IntKind.wrap IntKind.i64 (IntKind.wrap IntKind.i64 ((0 : Int) + (1 : Int)) + (1 : Int)) + (1 : Int))))))) (IntKind.bits IntKind.u32))))) :
      Int))
  (nmB (1 : Nat) (remB B n) e)) (nmB (1 : Nat) (remB B n) e)), (zzy11 z0 z1 z2 z3 B n e)], []⟩)))))) := by kernel_rfl
end Go.Proofs.YtogbdjlelkepcaaGreatDoor
namespace Go.Proofs.YtogbdjlelkepcaaGreatDoor
open Go.RowKit

theorem m32_cases {n : Int} (h : M32 n) : n = 0 ∨ n = 1 ∨ n = 2 ∨ n = 3 ∨ n = 4 ∨ n = 5 ∨ n = 6 ∨ n = 7 ∨ n = 8 ∨ n = 9 ∨ n = 10 ∨ n = 11 ∨ n = 12 ∨ n = 13 ∨ n = 14 ∨ n = 15 ∨ n = 16 ∨ n = 17 ∨ n = 18 ∨ n = 19 ∨ n = 20 ∨ n = 21 ∨ n = 22 ∨ n = 23 ∨ n = 24 ∨ n = 25 ∨ n = 26 ∨ n = 27 ∨ n = 28 ∨ n = 29 ∨ n = 30 ∨ n = 31 ∨ n = 32 := by
 obtain ⟨h0, h1⟩ := h; omega
theorem pma_vcx {n : Int} (h : M32 n) : VCx Tryz.prog noGl 0 pMaF [.val (.int .i64 n)] ⟨[], []⟩ fun x T' => x = .val (.int .u32 (mkZ n)) ∧ T' = ⟨[], []⟩ := by
 rcases m32_cases h with rfl | rfl | rfl | rfl | rfl | rfl | rfl | rfl | rfl | rfl | rfl | rfl | rfl | rfl | rfl | rfl | rfl | rfl | rfl | rfl | rfl | rfl | rfl | rfl | rfl | rfl | rfl | rfl | rfl | rfl | rfl | rfl | rfl
 ·exact vcallF_is mixedB_Tryz bodiesB_Tryz specsOk_none lsOk_none (ev_pma0 _) ⟨rfl, rfl⟩
 ·exact vcallF_is mixedB_Tryz bodiesB_Tryz specsOk_none lsOk_none (ev_pma1 _) ⟨rfl, rfl⟩
 ·exact vcallF_is mixedB_Tryz bodiesB_Tryz specsOk_none lsOk_none (ev_pma2 _) ⟨rfl, rfl⟩
 ·exact vcallF_is mixedB_Tryz bodiesB_Tryz specsOk_none lsOk_none (ev_pma3 _) ⟨rfl, rfl⟩
 ·exact vcallF_is mixedB_Tryz bodiesB_Tryz specsOk_none lsOk_none (ev_pma4 _) ⟨rfl, rfl⟩
 ·exact vcallF_is mixedB_Tryz bodiesB_Tryz specsOk_none lsOk_none (ev_pma5 _) ⟨rfl, rfl⟩
 ·exact vcallF_is mixedB_Tryz bodiesB_Tryz specsOk_none lsOk_none (ev_pma6 _) ⟨rfl, rfl⟩
 ·exact vcallF_is mixedB_Tryz bodiesB_Tryz specsOk_none lsOk_none (ev_pma7 _) ⟨rfl, rfl⟩
 ·exact vcallF_is mixedB_Tryz bodiesB_Tryz specsOk_none lsOk_none (ev_pma8 _) ⟨rfl, rfl⟩
 ·exact vcallF_is mixedB_Tryz bodiesB_Tryz specsOk_none lsOk_none (ev_pma9 _) ⟨rfl, rfl⟩
 ·exact vcallF_is mixedB_Tryz bodiesB_Tryz specsOk_none lsOk_none (ev_pma10 _) ⟨rfl, rfl⟩
 ·exact vcallF_is mixedB_Tryz bodiesB_Tryz specsOk_none lsOk_none (ev_pma11 _) ⟨rfl, rfl⟩
 ·exact vcallF_is mixedB_Tryz bodiesB_Tryz specsOk_none lsOk_none (ev_pma12 _) ⟨rfl, rfl⟩
 ·exact vcallF_is mixedB_Tryz bodiesB_Tryz specsOk_none lsOk_none (ev_pma13 _) ⟨rfl, rfl⟩
 ·exact vcallF_is mixedB_Tryz bodiesB_Tryz specsOk_none lsOk_none (ev_pma14 _) ⟨rfl, rfl⟩
 ·exact vcallF_is mixedB_Tryz bodiesB_Tryz specsOk_none lsOk_none (ev_pma15 _) ⟨rfl, rfl⟩
 ·exact vcallF_is mixedB_Tryz bodiesB_Tryz specsOk_none lsOk_none (ev_pma16 _) ⟨rfl, rfl⟩
 ·exact vcallF_is mixedB_Tryz bodiesB_Tryz specsOk_none lsOk_none (ev_pma17 _) ⟨rfl, rfl⟩
 ·exact vcallF_is mixedB_Tryz bodiesB_Tryz specsOk_none lsOk_none (ev_pma18 _) ⟨rfl, rfl⟩
 ·exact vcallF_is mixedB_Tryz bodiesB_Tryz specsOk_none lsOk_none (ev_pma19 _) ⟨rfl, rfl⟩
 ·exact vcallF_is mixedB_Tryz bodiesB_Tryz specsOk_none lsOk_none (ev_pma20 _) ⟨rfl, rfl⟩
 ·exact vcallF_is mixedB_Tryz bodiesB_Tryz specsOk_none lsOk_none (ev_pma21 _) ⟨rfl, rfl⟩
 ·exact vcallF_is mixedB_Tryz bodiesB_Tryz specsOk_none lsOk_none (ev_pma22 _) ⟨rfl, rfl⟩
 ·exact vcallF_is mixedB_Tryz bodiesB_Tryz specsOk_none lsOk_none (ev_pma23 _) ⟨rfl, rfl⟩
 ·exact vcallF_is mixedB_Tryz bodiesB_Tryz specsOk_none lsOk_none (ev_pma24 _) ⟨rfl, rfl⟩
 ·exact vcallF_is mixedB_Tryz bodiesB_Tryz specsOk_none lsOk_none (ev_pma25 _) ⟨rfl, rfl⟩
 ·exact vcallF_is mixedB_Tryz bodiesB_Tryz specsOk_none lsOk_none (ev_pma26 _) ⟨rfl, rfl⟩
 ·exact vcallF_is mixedB_Tryz bodiesB_Tryz specsOk_none lsOk_none (ev_pma27 _) ⟨rfl, rfl⟩
 ·exact vcallF_is mixedB_Tryz bodiesB_Tryz specsOk_none lsOk_none (ev_pma28 _) ⟨rfl, rfl⟩
 ·exact vcallF_is mixedB_Tryz bodiesB_Tryz specsOk_none lsOk_none (ev_pma29 _) ⟨rfl, rfl⟩
 ·exact vcallF_is mixedB_Tryz bodiesB_Tryz specsOk_none lsOk_none (ev_pma30 _) ⟨rfl, rfl⟩
 ·exact vcallF_is mixedB_Tryz bodiesB_Tryz specsOk_none lsOk_none (ev_pma31 _) ⟨rfl, rfl⟩
 ·exact vcallF_is mixedB_Tryz bodiesB_Tryz specsOk_none lsOk_none (ev_pma32 _) ⟨rfl, rfl⟩
theorem pmaW_ok : ∀ ro ys T K, mkW ro ys T K → VCx Tryz.prog noGl ro pMaF ys T K := by
 intro ro ys T K hw
 unfold mkW at hw
 split at hw
 ·exact VCx.liftPure gvals_noGl (pma_vcx hw.1) rfl (fun _ _ => rfl) hw.2
 ·exact hw.elim
theorem qma_vcx {n : Int} (h : M32 n) : VCx Tryz.prog noGl 0 qMaF [.val (.int .i64 n)] ⟨[], []⟩ fun x T' => x = .val (.int .u32 (mkZ n)) ∧ T' = ⟨[], []⟩ := by
 rcases m32_cases h with rfl | rfl | rfl | rfl | rfl | rfl | rfl | rfl | rfl | rfl | rfl | rfl | rfl | rfl | rfl | rfl | rfl | rfl | rfl | rfl | rfl | rfl | rfl | rfl | rfl | rfl | rfl | rfl | rfl | rfl | rfl | rfl | rfl
 ·exact vcallF_is mixedB_Tryz bodiesB_Tryz specsOk_none lsOk_none (ev_qma0 _) ⟨rfl, rfl⟩
 ·exact vcallF_is mixedB_Tryz bodiesB_Tryz specsOk_none lsOk_none (ev_qma1 _) ⟨rfl, rfl⟩
 ·exact vcallF_is mixedB_Tryz bodiesB_Tryz specsOk_none lsOk_none (ev_qma2 _) ⟨rfl, rfl⟩
 ·exact vcallF_is mixedB_Tryz bodiesB_Tryz specsOk_none lsOk_none (ev_qma3 _) ⟨rfl, rfl⟩
 ·exact vcallF_is mixedB_Tryz bodiesB_Tryz specsOk_none lsOk_none (ev_qma4 _) ⟨rfl, rfl⟩
 ·exact vcallF_is mixedB_Tryz bodiesB_Tryz specsOk_none lsOk_none (ev_qma5 _) ⟨rfl, rfl⟩
 ·exact vcallF_is mixedB_Tryz bodiesB_Tryz specsOk_none lsOk_none (ev_qma6 _) ⟨rfl, rfl⟩
 ·exact vcallF_is mixedB_Tryz bodiesB_Tryz specsOk_none lsOk_none (ev_qma7 _) ⟨rfl, rfl⟩
 ·exact vcallF_is mixedB_Tryz bodiesB_Tryz specsOk_none lsOk_none (ev_qma8 _) ⟨rfl, rfl⟩
 ·exact vcallF_is mixedB_Tryz bodiesB_Tryz specsOk_none lsOk_none (ev_qma9 _) ⟨rfl, rfl⟩
 ·exact vcallF_is mixedB_Tryz bodiesB_Tryz specsOk_none lsOk_none (ev_qma10 _) ⟨rfl, rfl⟩
 ·exact vcallF_is mixedB_Tryz bodiesB_Tryz specsOk_none lsOk_none (ev_qma11 _) ⟨rfl, rfl⟩
 ·exact vcallF_is mixedB_Tryz bodiesB_Tryz specsOk_none lsOk_none (ev_qma12 _) ⟨rfl, rfl⟩
 ·exact vcallF_is mixedB_Tryz bodiesB_Tryz specsOk_none lsOk_none (ev_qma13 _) ⟨rfl, rfl⟩
 ·exact vcallF_is mixedB_Tryz bodiesB_Tryz specsOk_none lsOk_none (ev_qma14 _) ⟨rfl, rfl⟩
 ·exact vcallF_is mixedB_Tryz bodiesB_Tryz specsOk_none lsOk_none (ev_qma15 _) ⟨rfl, rfl⟩
 ·exact vcallF_is mixedB_Tryz bodiesB_Tryz specsOk_none lsOk_none (ev_qma16 _) ⟨rfl, rfl⟩
 ·exact vcallF_is mixedB_Tryz bodiesB_Tryz specsOk_none lsOk_none (ev_qma17 _) ⟨rfl, rfl⟩
 ·exact vcallF_is mixedB_Tryz bodiesB_Tryz specsOk_none lsOk_none (ev_qma18 _) ⟨rfl, rfl⟩
 ·exact vcallF_is mixedB_Tryz bodiesB_Tryz specsOk_none lsOk_none (ev_qma19 _) ⟨rfl, rfl⟩
 ·exact vcallF_is mixedB_Tryz bodiesB_Tryz specsOk_none lsOk_none (ev_qma20 _) ⟨rfl, rfl⟩
 ·exact vcallF_is mixedB_Tryz bodiesB_Tryz specsOk_none lsOk_none (ev_qma21 _) ⟨rfl, rfl⟩
 ·exact vcallF_is mixedB_Tryz bodiesB_Tryz specsOk_none lsOk_none (ev_qma22 _) ⟨rfl, rfl⟩
 ·exact vcallF_is mixedB_Tryz bodiesB_Tryz specsOk_none lsOk_none (ev_qma23 _) ⟨rfl, rfl⟩
 ·exact vcallF_is mixedB_Tryz bodiesB_Tryz specsOk_none lsOk_none (ev_qma24 _) ⟨rfl, rfl⟩
 ·exact vcallF_is mixedB_Tryz bodiesB_Tryz specsOk_none lsOk_none (ev_qma25 _) ⟨rfl, rfl⟩
 ·exact vcallF_is mixedB_Tryz bodiesB_Tryz specsOk_none lsOk_none (ev_qma26 _) ⟨rfl, rfl⟩
 ·exact vcallF_is mixedB_Tryz bodiesB_Tryz specsOk_none lsOk_none (ev_qma27 _) ⟨rfl, rfl⟩
 ·exact vcallF_is mixedB_Tryz bodiesB_Tryz specsOk_none lsOk_none (ev_qma28 _) ⟨rfl, rfl⟩
 ·exact vcallF_is mixedB_Tryz bodiesB_Tryz specsOk_none lsOk_none (ev_qma29 _) ⟨rfl, rfl⟩
 ·exact vcallF_is mixedB_Tryz bodiesB_Tryz specsOk_none lsOk_none (ev_qma30 _) ⟨rfl, rfl⟩
 ·exact vcallF_is mixedB_Tryz bodiesB_Tryz specsOk_none lsOk_none (ev_qma31 _) ⟨rfl, rfl⟩
 ·exact vcallF_is mixedB_Tryz bodiesB_Tryz specsOk_none lsOk_none (ev_qma32 _) ⟨rfl, rfl⟩
theorem qmaW_ok : ∀ ro ys T K, mkW ro ys T K → VCx Tryz.prog noGl ro qMaF ys T K := by
 intro ro ys T K hw
 unfold mkW at hw
 split at hw
 ·exact VCx.liftPure gvals_noGl (qma_vcx hw.1) rfl (fun _ _ => rfl) hw.2
 ·exact hw.elim
theorem pca_vcx (a : Int) {n : Int} (h : M32 n) : VCx Tryz.prog noGl 0 pCaF [.agg [.val (.int .u32 a), .val (.int .i64 n)]] ⟨[], []⟩ fun x T' => x = .agg [.val (.int .u32 (cnA a n)), .val (.int .i64 n)] ∧ T' = ⟨[], []⟩ := by
 refine VCx.keepQ 0 0 (Nat.le_refl _) (Nat.le_refl _) (vcallF_is mixedB_Tryz bodiesB_Tryz (specs_ok fun p hp => by obtain rfl := List.mem_singleton.1 hp; exact pmaW_ok) lsOk_none (ev_pca a n _) ?_)
 have e : (if (32 : Int) < if (0 : Int) > n then (0 : Int) else n then (32 : Int) else if (0 : Int) > n then (0 : Int) else n) = n := by
  obtain ⟨h0, h1⟩ := h
  rw [if_neg (show ¬ (0 : Int) > n by omega), if_neg (by omega)]
 rw [e]
 exact ⟨h, rfl, rfl⟩
theorem pcaW_ok : ∀ ro ys T K, caW ro ys T K → VCx Tryz.prog noGl ro pCaF ys T K := by
 intro ro ys T K hw
 unfold caW at hw
 split at hw
 ·exact VCx.liftPure gvals_noGl (pca_vcx _ hw.1) rfl (fun _ _ => rfl) hw.2
 ·exact hw.elim
theorem qca_vcx (a : Int) {n : Int} (h : M32 n) : VCx Tryz.prog noGl 0 qCaF [.agg [.val (.int .u32 a), .val (.int .i64 n)]] ⟨[], []⟩ fun x T' => x = .agg [.val (.int .u32 (cnA a n)), .val (.int .i64 n)] ∧ T' = ⟨[], []⟩ := by
 refine VCx.keepQ 0 0 (Nat.le_refl _) (Nat.le_refl _) (vcallF_is mixedB_Tryz bodiesB_Tryz (specs_ok fun p hp => by obtain rfl := List.mem_singleton.1 hp; exact qmaW_ok) lsOk_none (ev_qca a n _) ?_)
 obtain ⟨h0, h1⟩ := h
 exact condF (decide_eq_false (by omega)) (condF (decide_eq_false (by omega)) ⟨⟨h0, h1⟩, rfl, rfl⟩)
theorem qcaW_ok : ∀ ro ys T K, caW ro ys T K → VCx Tryz.prog noGl ro qCaF ys T K := by
 intro ro ys T K hw
 unfold caW at hw
 split at hw
 ·exact VCx.liftPure gvals_noGl (qca_vcx _ hw.1) rfl (fun _ _ => rfl) hw.2
 ·exact hw.elim
theorem sbE_ok (l : Bs) : ∀ ro ys T K, sbE l ro ys T K → VCx Tryz.prog noGl ro wByF ys T K := by
 intro ro ys T K hw
 unfold sbE at hw
 split at hw
 ·split at hw
  ·rename_i ho
   obtain ⟨⟨h1, h2⟩, hk⟩ := hw
   subst h2
   refine wBy_ok _ _ _ _ ?_
   unfold sbW
   simp only [ho]
   exact ⟨h1, hk⟩
  ·exact hw.elim
 ·exact hw.elim
theorem rbE_ok (l : Bs) : ∀ ro ys T K, rbE l ro ys T K → VCx Tryz.prog noGl ro rByF ys T K := by
 intro ro ys T K hw
 unfold rbE at hw
 split at hw
 ·split at hw
  ·rename_i ho
   obtain ⟨⟨h1, h2⟩, hk⟩ := hw
   subst h2
   refine rBy_ok _ _ _ _ ?_
   unfold rbW
   simp only [ho]
   exact ⟨h1, hk⟩
  ·exact hw.elim
 ·exact hw.elim
def ocN (n : Int) : Int := Int.tdiv (n + 7) 8
def adB (l : Bs) : Int := beB (l ++ List.replicate (4 - l.length) (bT 0))
def prG (b : Bs) (e : Int) : Bool := decide (tkE 1 b e = 0) && decide (nmB 1 b e ≤ 32)
def prL (b : Bs) (e : Int) : Bs := tkB (ocN (nmB 1 b e)) (tkR 1 b e) (tkE 1 b e)
def prF (b : Bs) (e : Int) : Int := tkE (ocN (nmB 1 b e)) (tkR 1 b e) (tkE 1 b e)
def prOk (b : Bs) (e : Int) : Bool := prG b e && decide (prF b e = 0)
def prB (b : Bs) (e : Int) : Bs := bif prG b e then tkR (ocN (nmB 1 b e)) (tkR 1 b e) (tkE 1 b e) else tkR 1 b e
def prE (b : Bs) (e : Int) : Int := bif prG b e then prF b e else tkE 1 b e
def prA (b : Bs) (e a : Int) : Int := bif prG b e then tkA (ocN (nmB 1 b e)) (tkR 1 b e) (tkE 1 b e) (tkA 1 b e a) else tkA 1 b e a
def prAd (b : Bs) (e : Int) : Int := bif prOk b e then cnA (adB (prL b e)) (nmB 1 b e) else 0
def prLn (b : Bs) (e : Int) : Int := bif prOk b e then nmB 1 b e else 0
def prX (b : Bs) (e : Int) : TV := .tup [.agg [.val (.int .u32 (prAd b e)), .val (.int .i64 (prLn b e))], .val (.bool (prOk b e))]
def rpN (B : Bs) (n e : Int) : Int := bif prG (remB B n) e then tkN (ocN (nmB 1 (remB B n) e)) B (tkN 1 B n e) (tkE 1 (remB B n) e) else tkN 1 B n e
theorem keepS {b : Bs} (hb : IsB b) (a e : Int) (l : List VO) (t : List (Nat × Nat × Bool)) : VT.keep ⟨srcO b a e :: l, t⟩ 1 0 = ⟨[srcO b a e], []⟩ := by
 simp only [VT.keep, List.take_succ_cons, List.take_zero, List.map_cons, List.map_nil, srcO_ren hb]
theorem keepR {B : Bs} (hB : IsB B) (n e : Int) (l : List VO) (t : List (Nat × Nat × Bool)) : VT.keep ⟨rsO B n e :: l, t⟩ 1 0 = ⟨[rsO B n e], []⟩ := by
 simp only [VT.keep, List.take_succ_cons, List.take_zero, List.map_cons, List.map_nil, rsO_ren hB]
theorem prB_is {b : Bs} {e : Int} (h : IsB b) : IsB (prB b e) := by
 unfold prB; cases prG b e
 ·exact tkR_is h
 ·exact tkR_is (tkR_is h)
theorem rpN_in {B : Bs} {n : Int} (h : InB B n) (e : Int) : InB B (rpN B n e) := by
 unfold rpN; cases prG (remB B n) e
 ·exact tkN_in h _ _
 ·exact tkN_in (tkN_in h _ _) _ _
theorem rpN_rem {B : Bs} {n : Int} (h : InB B n) (e : Int) : remB B (rpN B n e) = prB (remB B n) e := by
 unfold rpN prB; cases prG (remB B n) e
 ·exact tkN_rem h _ _
 ·simp only [cond_true]; rw [tkN_rem (tkN_in h _ _), show remB B (tkN 1 B n e) = _ from tkN_rem h 1 e]
theorem nm1 {b : Bs} (h : IsB b) (e : Int) : 0 ≤ nmB 1 b e ∧ nmB 1 b e < 256 := by
 rw [nmB_eq]; exact nmI_lt (n := 1) h e
theorem ocW {n : Int} (h0 : 0 ≤ n) (h1 : n < 256) : IntKind.wrap .i64 (Int.tdiv (IntKind.wrap .i64 (IntKind.wrap .i64 (n + (8 : Int)) - (1 : Int))) (8 : Int)) = ocN n := by
 unfold ocN
 rw [wrap_id (z := n + 8) (by omega) (by omega), wrap_id (z := n + 8 - 1) (by omega) (by omega), show n + 8 - 1 = n + 7 by omega]
 have := Int.tdiv_eq_ediv_of_nonneg (a := n + 7) (b := 8) (by omega)
 exact wrap_id (by omega) (by omega)
theorem ocW2 {n : Int} (h0 : 0 ≤ n) (h1 : n < 256) : IntKind.wrap .i64 (Int.tdiv (IntKind.wrap .i64 (n + (7 : Int))) (8 : Int)) = ocN n := by
 unfold ocN
 rw [wrap_id (z := n + 7) (by omega) (by omega)]
 have := Int.tdiv_eq_ediv_of_nonneg (a := n + 7) (b := 8) (by omega)
 exact wrap_id (by omega) (by omega)
def wo (a z : Int) (m : Nat) : Int := IntKind.wrap .u32 (BitVec.toNat (BitVec.ofInt (IntKind.bits .u32) a ||| BitVec.ofInt (IntKind.bits .u32) (IntKind.wrap .u32 (IntKind.wrap .u32 z * (2 : Int) ^ m))) : Nat)
theorem wo_add {q z : Nat} {m : Nat} (hm : m ≤ 24) (hz : z < 256) (hq : (q + 1) * 2 ^ (m + 8) ≤ 4294967296) : wo ((q * 2 ^ (m + 8) : Nat) : Int) z m = ((q * 2 ^ (m + 8) + z * 2 ^ m : Nat) : Int) := by
 have h1 : z * 2 ^ m < 2 ^ (m + 8) := by
  rw [Nat.pow_add, Nat.mul_comm z]
  exact Nat.mul_lt_mul_of_pos_left hz (Nat.pow_pos (by decide))
 have h2 : q * 2 ^ (m + 8) + 2 ^ (m + 8) ≤ 4294967296 := by rw [← Nat.succ_mul]; exact hq
 have e1 : IntKind.wrap .u32 (z : Int) = (z : Int) := by simp only [IntKind.wrap, IntKind.bits, IntKind.signed]; simp; omega
 have e2 : (z : Int) * (2 : Int) ^ m = ((z * 2 ^ m : Nat) : Int) := by simp
 have e3 : IntKind.wrap .u32 ((z * 2 ^ m : Nat) : Int) = ((z * 2 ^ m : Nat) : Int) := by
  generalize z * 2 ^ m = y at *
  simp only [IntKind.wrap, IntKind.bits, IntKind.signed]; simp; omega
 unfold wo
 rw [e1, e2, e3]
 have e4 : (BitVec.ofInt (IntKind.bits .u32) ((q * 2 ^ (m + 8) : Nat) : Int) ||| BitVec.ofInt (IntKind.bits .u32) ((z * 2 ^ m : Nat) : Int)).toNat = q * 2 ^ (m + 8) + z * 2 ^ m := by
  rw [BitVec.toNat_or]
  simp only [IntKind.bits, BitVec.ofInt_natCast, BitVec.toNat_ofNat]
  have h3 : q * 2 ^ (m + 8) % 2 ^ 32 = q * 2 ^ (m + 8) := Nat.mod_eq_of_lt (by omega)
  have h4 : z * 2 ^ m % 2 ^ 32 = z * 2 ^ m := Nat.mod_eq_of_lt (by omega)
  rw [h3, h4, Nat.mul_comm q, Nat.two_pow_add_eq_or_of_lt h1]
 rw [e4]
 have h5 : q * 2 ^ (m + 8) + z * 2 ^ m < 4294967296 := by omega
 clear e4 h1 h2 hq e1 e2 e3
 generalize q * 2 ^ (m + 8) + z * 2 ^ m = y at h5 ⊢
 simp only [IntKind.wrap, IntKind.bits, IntKind.signed]; simp; omega
theorem adB_is (z0 z1 z2 z3 : Int) : adB [bT z0, bT z1, bT z2, bT z3] = ((z0 * 256 + z1) * 256 + z2) * 256 + z3 ∧ adB [bT z0, bT z1, bT z2] = ((z0 * 256 + z1) * 256 + z2) * 256 ∧ adB [bT z0, bT z1] = ((z0 * 256 + z1) * 256) * 256 ∧ adB [bT z0] = (z0 * 256 * 256) * 256 ∧ adB [] = 0 := by
 refine ⟨?_, ?_, ?_, ?_, ?_⟩ <;> simp [adB, beB, bval, bT, List.replicate]
theorem prSp (l : Bs) : SpecsOk Tryz.prog noGl (specs [(wU8F, snW .i64 1), (wErF, seW), (wByF, sbE l), (pCaF, caW)]) := specs_ok fun p hp => by
 rcases List.mem_cons.1 hp with rfl | hp; exact wU8_ok
 rcases List.mem_cons.1 hp with rfl | hp; exact wEr_ok
 rcases List.mem_cons.1 hp with rfl | hp; exact sbE_ok l
 obtain rfl := List.mem_singleton.1 hp; exact pcaW_ok
theorem qrSp (l : Bs) : SpecsOk Tryz.prog noGl (specs [(rU8F, rnW .i64 1), (rByF, rbE l), (qCaF, caW)]) := specs_ok fun p hp => by
 rcases List.mem_cons.1 hp with rfl | hp; exact rU8_ok
 rcases List.mem_cons.1 hp with rfl | hp; exact rbE_ok l
 obtain rfl := List.mem_singleton.1 hp; exact qcaW_ok
def prT (b : Bs) (a e : Int) : VT := ⟨[srcO (prB b e) (prA b e a) (prE b e)], []⟩
def rpT (B : Bs) (n e : Int) : VT := ⟨[rsO B (rpN B n e) (prE (remB B n) e)], []⟩
theorem wo_add' {q z : Int} (m : Nat) (hm : m ≤ 24) (hz0 : 0 ≤ z) (hz : z < 256) (hq0 : 0 ≤ q) (hq : (q + 1) * 2 ^ (m + 8) ≤ 4294967296) : wo (q * 2 ^ (m + 8)) z m = q * 2 ^ (m + 8) + z * 2 ^ m := by
 obtain ⟨q, rfl⟩ := Int.eq_ofNat_of_zero_le hq0
 obtain ⟨z, rfl⟩ := Int.eq_ofNat_of_zero_le hz0
 have h := wo_add (q := q) (z := z) hm (by omega) (Int.ofNat_le.1 (by rw [Int.natCast_mul, Int.natCast_pow, Int.natCast_add]; exact hq))
 rw [Int.natCast_mul, Int.natCast_pow, Int.natCast_add, Int.natCast_mul, Int.natCast_mul, Int.natCast_pow, Int.natCast_pow] at h
 exact h
theorem prd0 {b : Bs} (hb : IsB b) (a e : Int) (hl : prG b e = true → prL b e = []) : VCx Tryz.prog noGl 0 pRdF [.ptr 0 0] ⟨[srcO b a e], []⟩ fun x T' => x = prX b e ∧ T' = prT b a e := by
  obtain ⟨hn0, hn1⟩ := nm1 hb e
  refine VCx.keepQ 1 0 (Nat.le_refl _) (Nat.le_refl _) (vcallF_is mixedB_Tryz bodiesB_Tryz (prSp []) lsOk_none (ev_prd0 b a e _) ?_)
  refine ⟨⟨rfl, hb⟩, ⟨rfl, tkR_is hb⟩, ?_⟩
  by_cases h1 : tkE 1 b e = 0
  · refine condF (by rw [neI]; exact congrArg Bool.not (decide_eq_true h1)) ?_
    by_cases h2 : nmB 1 b e ≤ 32
    · have hG : prG b e = true := by unfold prG; rw [decide_eq_true h1, decide_eq_true h2]; rfl
      have hL := hl hG
      refine condF (decide_eq_false (by omega)) ?_
      try delta zzy3 zzy4 zzy5
      rw [ocW hn0 hn1]
      refine ⟨⟨⟨rfl, tkR_is hb⟩, hL⟩, ⟨rfl, tkR_is (tkR_is hb)⟩, ?_⟩
      have eT : ∀ l : List VO, VT.keep ⟨srcO (tkR (ocN (nmB 1 b e)) (tkR 1 b e) (tkE 1 b e)) (tkA (ocN (nmB 1 b e)) (tkR 1 b e) (tkE 1 b e) (tkA 1 b e a)) (tkE (ocN (nmB 1 b e)) (tkR 1 b e) (tkE 1 b e)) :: l, []⟩ 1 0 = prT b a e := fun l => by
        rw [keepS (tkR_is (tkR_is hb))]; simp only [prT, prB, prA, prE, prF, hG, cond_true]
      by_cases h3 : prF b e = 0
      · have hO : prOk b e = true := by unfold prOk; rw [hG, decide_eq_true h3]; rfl
        refine condF (by rw [neI]; exact congrArg Bool.not (decide_eq_true h3)) ⟨⟨hn0, h2⟩, ?_, eT _⟩
        unfold prX prAd prLn
        rw [hO]
        simp only [cond_true]
        refine congrArg (fun y => TV.tup [.agg [.val (.int .u32 (cnA y (nmB 1 b e))), .val (.int .i64 (nmB 1 b e))], .val (.bool true)]) ?_
        rw [hL]
        have ha := adB_is 0 0 0 0
        rw [or_byte (n := 0) (z := 0) (by omega) (by omega) (by omega) (by omega)]
        rw [or_byte (n := (0 * 256 + 0)) (z := 0) (by omega) (by omega) (by omega) (by omega)]
        rw [or_byte (n := ((0 * 256 + 0) * 256 + 0)) (z := 0) (by omega) (by omega) (by omega) (by omega)]
        rw [or_byte (n := (((0 * 256 + 0) * 256 + 0) * 256 + 0)) (z := 0) (by omega) (by omega) (by omega) (by omega)]
        have hw64 : IntKind.wrap .u64 ((((0 * 256 + 0) * 256 + 0) * 256 + 0) * 256 + 0) = ((((0 * 256 + 0) * 256 + 0) * 256 + 0) * 256 + 0) := by simp only [IntKind.wrap, IntKind.bits, IntKind.signed]; simp <;> omega
        have hw32 : IntKind.wrap .u32 ((((0 * 256 + 0) * 256 + 0) * 256 + 0) * 256 + 0) = ((((0 * 256 + 0) * 256 + 0) * 256 + 0) * 256 + 0) := by simp only [IntKind.wrap, IntKind.bits, IntKind.signed]; simp <;> omega
        rw [ha.2.2.2.2]
        first | rw [hw64, hw32] | rw [hw32] | skip
        omega
      · have hO : prOk b e = false := by unfold prOk; rw [hG, decide_eq_false h3]; rfl
        refine condT (by rw [neI]; exact congrArg Bool.not (decide_eq_false h3)) ⟨?_, eT _⟩
        unfold prX prAd prLn
        rw [hO]; rfl
    · have hG : prG b e = false := by unfold prG; rw [decide_eq_false h2, Bool.and_false]
      have hO : prOk b e = false := by unfold prOk; rw [hG]; rfl
      refine condT (decide_eq_true (by omega)) ⟨?_, ?_⟩
      · unfold prX prAd prLn
        rw [hO]; rfl
      · refine (keepS (tkR_is hb) _ _ _ _).trans ?_
        simp only [prT, prB, prA, prE, hG, cond_false]; rfl
  · have hG : prG b e = false := by unfold prG; rw [decide_eq_false h1, Bool.false_and]
    have hO : prOk b e = false := by unfold prOk; rw [hG]; rfl
    refine condT (by rw [neI]; exact congrArg Bool.not (decide_eq_false h1)) ⟨?_, ?_⟩
    · unfold prX prAd prLn
      rw [hO]; rfl
    · refine (keepS (tkR_is hb) _ _ _ _).trans ?_
      simp only [prT, prB, prA, prE, hG, cond_false]; rfl
theorem prd1 {b : Bs} (hb : IsB b) (a e : Int) {z0 : Int} (hz0 : 0 ≤ z0 ∧ z0 < 256) (hl : prG b e = true → prL b e = [bT z0]) : VCx Tryz.prog noGl 0 pRdF [.ptr 0 0] ⟨[srcO b a e], []⟩ fun x T' => x = prX b e ∧ T' = prT b a e := by
  obtain ⟨hn0, hn1⟩ := nm1 hb e
  refine VCx.keepQ 1 0 (Nat.le_refl _) (Nat.le_refl _) (vcallF_is mixedB_Tryz bodiesB_Tryz (prSp [bT z0]) lsOk_none (ev_prd1 b a e z0 _) ?_)
  refine ⟨⟨rfl, hb⟩, ⟨rfl, tkR_is hb⟩, ?_⟩
  by_cases h1 : tkE 1 b e = 0
  · refine condF (by rw [neI]; exact congrArg Bool.not (decide_eq_true h1)) ?_
    by_cases h2 : nmB 1 b e ≤ 32
    · have hG : prG b e = true := by unfold prG; rw [decide_eq_true h1, decide_eq_true h2]; rfl
      have hL := hl hG
      refine condF (decide_eq_false (by omega)) ?_
      try delta zzy3 zzy4 zzy5
      rw [ocW hn0 hn1]
      refine ⟨⟨⟨rfl, tkR_is hb⟩, hL⟩, ⟨rfl, tkR_is (tkR_is hb)⟩, ?_⟩
      have eT : ∀ l : List VO, VT.keep ⟨srcO (tkR (ocN (nmB 1 b e)) (tkR 1 b e) (tkE 1 b e)) (tkA (ocN (nmB 1 b e)) (tkR 1 b e) (tkE 1 b e) (tkA 1 b e a)) (tkE (ocN (nmB 1 b e)) (tkR 1 b e) (tkE 1 b e)) :: l, []⟩ 1 0 = prT b a e := fun l => by
        rw [keepS (tkR_is (tkR_is hb))]; simp only [prT, prB, prA, prE, prF, hG, cond_true]
      by_cases h3 : prF b e = 0
      · have hO : prOk b e = true := by unfold prOk; rw [hG, decide_eq_true h3]; rfl
        refine condF (by rw [neI]; exact congrArg Bool.not (decide_eq_true h3)) ⟨⟨hn0, h2⟩, ?_, eT _⟩
        unfold prX prAd prLn
        rw [hO]
        simp only [cond_true]
        refine congrArg (fun y => TV.tup [.agg [.val (.int .u32 (cnA y (nmB 1 b e))), .val (.int .i64 (nmB 1 b e))], .val (.bool true)]) ?_
        rw [hL]
        have ha := adB_is z0 0 0 0
        rw [or_byte (n := 0) (z := z0) (by omega) (by omega) (by omega) (by omega)]
        rw [or_byte (n := (0 * 256 + z0)) (z := 0) (by omega) (by omega) (by omega) (by omega)]
        rw [or_byte (n := ((0 * 256 + z0) * 256 + 0)) (z := 0) (by omega) (by omega) (by omega) (by omega)]
        rw [or_byte (n := (((0 * 256 + z0) * 256 + 0) * 256 + 0)) (z := 0) (by omega) (by omega) (by omega) (by omega)]
        have hw64 : IntKind.wrap .u64 ((((0 * 256 + z0) * 256 + 0) * 256 + 0) * 256 + 0) = ((((0 * 256 + z0) * 256 + 0) * 256 + 0) * 256 + 0) := by simp only [IntKind.wrap, IntKind.bits, IntKind.signed]; simp <;> omega
        have hw32 : IntKind.wrap .u32 ((((0 * 256 + z0) * 256 + 0) * 256 + 0) * 256 + 0) = ((((0 * 256 + z0) * 256 + 0) * 256 + 0) * 256 + 0) := by simp only [IntKind.wrap, IntKind.bits, IntKind.signed]; simp <;> omega
        rw [ha.2.2.2.1]
        first | rw [hw64, hw32] | rw [hw32] | skip
        omega
      · have hO : prOk b e = false := by unfold prOk; rw [hG, decide_eq_false h3]; rfl
        refine condT (by rw [neI]; exact congrArg Bool.not (decide_eq_false h3)) ⟨?_, eT _⟩
        unfold prX prAd prLn
        rw [hO]; rfl
    · have hG : prG b e = false := by unfold prG; rw [decide_eq_false h2, Bool.and_false]
      have hO : prOk b e = false := by unfold prOk; rw [hG]; rfl
      refine condT (decide_eq_true (by omega)) ⟨?_, ?_⟩
      · unfold prX prAd prLn
        rw [hO]; rfl
      · refine (keepS (tkR_is hb) _ _ _ _).trans ?_
        simp only [prT, prB, prA, prE, hG, cond_false]; rfl
  · have hG : prG b e = false := by unfold prG; rw [decide_eq_false h1, Bool.false_and]
    have hO : prOk b e = false := by unfold prOk; rw [hG]; rfl
    refine condT (by rw [neI]; exact congrArg Bool.not (decide_eq_false h1)) ⟨?_, ?_⟩
    · unfold prX prAd prLn
      rw [hO]; rfl
    · refine (keepS (tkR_is hb) _ _ _ _).trans ?_
      simp only [prT, prB, prA, prE, hG, cond_false]; rfl
theorem prd2 {b : Bs} (hb : IsB b) (a e : Int) {z0 z1 : Int} (hz0 : 0 ≤ z0 ∧ z0 < 256) (hz1 : 0 ≤ z1 ∧ z1 < 256) (hl : prG b e = true → prL b e = [bT z0, bT z1]) : VCx Tryz.prog noGl 0 pRdF [.ptr 0 0] ⟨[srcO b a e], []⟩ fun x T' => x = prX b e ∧ T' = prT b a e := by
  obtain ⟨hn0, hn1⟩ := nm1 hb e
  refine VCx.keepQ 1 0 (Nat.le_refl _) (Nat.le_refl _) (vcallF_is mixedB_Tryz bodiesB_Tryz (prSp [bT z0, bT z1]) lsOk_none (ev_prd2 b a e z0 z1 _) ?_)
  refine ⟨⟨rfl, hb⟩, ⟨rfl, tkR_is hb⟩, ?_⟩
  by_cases h1 : tkE 1 b e = 0
  · refine condF (by rw [neI]; exact congrArg Bool.not (decide_eq_true h1)) ?_
    by_cases h2 : nmB 1 b e ≤ 32
    · have hG : prG b e = true := by unfold prG; rw [decide_eq_true h1, decide_eq_true h2]; rfl
      have hL := hl hG
      refine condF (decide_eq_false (by omega)) ?_
      try delta zzy3 zzy4 zzy5
      rw [ocW hn0 hn1]
      refine ⟨⟨⟨rfl, tkR_is hb⟩, hL⟩, ⟨rfl, tkR_is (tkR_is hb)⟩, ?_⟩
      have eT : ∀ l : List VO, VT.keep ⟨srcO (tkR (ocN (nmB 1 b e)) (tkR 1 b e) (tkE 1 b e)) (tkA (ocN (nmB 1 b e)) (tkR 1 b e) (tkE 1 b e) (tkA 1 b e a)) (tkE (ocN (nmB 1 b e)) (tkR 1 b e) (tkE 1 b e)) :: l, []⟩ 1 0 = prT b a e := fun l => by
        rw [keepS (tkR_is (tkR_is hb))]; simp only [prT, prB, prA, prE, prF, hG, cond_true]
      by_cases h3 : prF b e = 0
      · have hO : prOk b e = true := by unfold prOk; rw [hG, decide_eq_true h3]; rfl
        refine condF (by rw [neI]; exact congrArg Bool.not (decide_eq_true h3)) ⟨⟨hn0, h2⟩, ?_, eT _⟩
        unfold prX prAd prLn
        rw [hO]
        simp only [cond_true]
        refine congrArg (fun y => TV.tup [.agg [.val (.int .u32 (cnA y (nmB 1 b e))), .val (.int .i64 (nmB 1 b e))], .val (.bool true)]) ?_
        rw [hL]
        have ha := adB_is z0 z1 0 0
        rw [or_byte (n := 0) (z := z0) (by omega) (by omega) (by omega) (by omega)]
        rw [or_byte (n := (0 * 256 + z0)) (z := z1) (by omega) (by omega) (by omega) (by omega)]
        rw [or_byte (n := ((0 * 256 + z0) * 256 + z1)) (z := 0) (by omega) (by omega) (by omega) (by omega)]
        rw [or_byte (n := (((0 * 256 + z0) * 256 + z1) * 256 + 0)) (z := 0) (by omega) (by omega) (by omega) (by omega)]
        have hw64 : IntKind.wrap .u64 ((((0 * 256 + z0) * 256 + z1) * 256 + 0) * 256 + 0) = ((((0 * 256 + z0) * 256 + z1) * 256 + 0) * 256 + 0) := by simp only [IntKind.wrap, IntKind.bits, IntKind.signed]; simp <;> omega
        have hw32 : IntKind.wrap .u32 ((((0 * 256 + z0) * 256 + z1) * 256 + 0) * 256 + 0) = ((((0 * 256 + z0) * 256 + z1) * 256 + 0) * 256 + 0) := by simp only [IntKind.wrap, IntKind.bits, IntKind.signed]; simp <;> omega
        rw [ha.2.2.1]
        first | rw [hw64, hw32] | rw [hw32] | skip
        omega
      · have hO : prOk b e = false := by unfold prOk; rw [hG, decide_eq_false h3]; rfl
        refine condT (by rw [neI]; exact congrArg Bool.not (decide_eq_false h3)) ⟨?_, eT _⟩
        unfold prX prAd prLn
        rw [hO]; rfl
    · have hG : prG b e = false := by unfold prG; rw [decide_eq_false h2, Bool.and_false]
      have hO : prOk b e = false := by unfold prOk; rw [hG]; rfl
      refine condT (decide_eq_true (by omega)) ⟨?_, ?_⟩
      · unfold prX prAd prLn
        rw [hO]; rfl
      · refine (keepS (tkR_is hb) _ _ _ _).trans ?_
        simp only [prT, prB, prA, prE, hG, cond_false]; rfl
  · have hG : prG b e = false := by unfold prG; rw [decide_eq_false h1, Bool.false_and]
    have hO : prOk b e = false := by unfold prOk; rw [hG]; rfl
    refine condT (by rw [neI]; exact congrArg Bool.not (decide_eq_false h1)) ⟨?_, ?_⟩
    · unfold prX prAd prLn
      rw [hO]; rfl
    · refine (keepS (tkR_is hb) _ _ _ _).trans ?_
      simp only [prT, prB, prA, prE, hG, cond_false]; rfl
theorem prd3 {b : Bs} (hb : IsB b) (a e : Int) {z0 z1 z2 : Int} (hz0 : 0 ≤ z0 ∧ z0 < 256) (hz1 : 0 ≤ z1 ∧ z1 < 256) (hz2 : 0 ≤ z2 ∧ z2 < 256) (hl : prG b e = true → prL b e = [bT z0, bT z1, bT z2]) : VCx Tryz.prog noGl 0 pRdF [.ptr 0 0] ⟨[srcO b a e], []⟩ fun x T' => x = prX b e ∧ T' = prT b a e := by
  obtain ⟨hn0, hn1⟩ := nm1 hb e
  refine VCx.keepQ 1 0 (Nat.le_refl _) (Nat.le_refl _) (vcallF_is mixedB_Tryz bodiesB_Tryz (prSp [bT z0, bT z1, bT z2]) lsOk_none (ev_prd3 b a e z0 z1 z2 _) ?_)
  refine ⟨⟨rfl, hb⟩, ⟨rfl, tkR_is hb⟩, ?_⟩
  by_cases h1 : tkE 1 b e = 0
  · refine condF (by rw [neI]; exact congrArg Bool.not (decide_eq_true h1)) ?_
    by_cases h2 : nmB 1 b e ≤ 32
    · have hG : prG b e = true := by unfold prG; rw [decide_eq_true h1, decide_eq_true h2]; rfl
      have hL := hl hG
      refine condF (decide_eq_false (by omega)) ?_
      try delta zzy3 zzy4 zzy5
      rw [ocW hn0 hn1]
      refine ⟨⟨⟨rfl, tkR_is hb⟩, hL⟩, ⟨rfl, tkR_is (tkR_is hb)⟩, ?_⟩
      have eT : ∀ l : List VO, VT.keep ⟨srcO (tkR (ocN (nmB 1 b e)) (tkR 1 b e) (tkE 1 b e)) (tkA (ocN (nmB 1 b e)) (tkR 1 b e) (tkE 1 b e) (tkA 1 b e a)) (tkE (ocN (nmB 1 b e)) (tkR 1 b e) (tkE 1 b e)) :: l, []⟩ 1 0 = prT b a e := fun l => by
        rw [keepS (tkR_is (tkR_is hb))]; simp only [prT, prB, prA, prE, prF, hG, cond_true]
      by_cases h3 : prF b e = 0
      · have hO : prOk b e = true := by unfold prOk; rw [hG, decide_eq_true h3]; rfl
        refine condF (by rw [neI]; exact congrArg Bool.not (decide_eq_true h3)) ⟨⟨hn0, h2⟩, ?_, eT _⟩
        unfold prX prAd prLn
        rw [hO]
        simp only [cond_true]
        refine congrArg (fun y => TV.tup [.agg [.val (.int .u32 (cnA y (nmB 1 b e))), .val (.int .i64 (nmB 1 b e))], .val (.bool true)]) ?_
        rw [hL]
        have ha := adB_is z0 z1 z2 0
        rw [or_byte (n := 0) (z := z0) (by omega) (by omega) (by omega) (by omega)]
        rw [or_byte (n := (0 * 256 + z0)) (z := z1) (by omega) (by omega) (by omega) (by omega)]
        rw [or_byte (n := ((0 * 256 + z0) * 256 + z1)) (z := z2) (by omega) (by omega) (by omega) (by omega)]
        rw [or_byte (n := (((0 * 256 + z0) * 256 + z1) * 256 + z2)) (z := 0) (by omega) (by omega) (by omega) (by omega)]
        have hw64 : IntKind.wrap .u64 ((((0 * 256 + z0) * 256 + z1) * 256 + z2) * 256 + 0) = ((((0 * 256 + z0) * 256 + z1) * 256 + z2) * 256 + 0) := by simp only [IntKind.wrap, IntKind.bits, IntKind.signed]; simp <;> omega
        have hw32 : IntKind.wrap .u32 ((((0 * 256 + z0) * 256 + z1) * 256 + z2) * 256 + 0) = ((((0 * 256 + z0) * 256 + z1) * 256 + z2) * 256 + 0) := by simp only [IntKind.wrap, IntKind.bits, IntKind.signed]; simp <;> omega
        rw [ha.2.1]
        first | rw [hw64, hw32] | rw [hw32] | skip
        omega
      · have hO : prOk b e = false := by unfold prOk; rw [hG, decide_eq_false h3]; rfl
        refine condT (by rw [neI]; exact congrArg Bool.not (decide_eq_false h3)) ⟨?_, eT _⟩
        unfold prX prAd prLn
        rw [hO]; rfl
    · have hG : prG b e = false := by unfold prG; rw [decide_eq_false h2, Bool.and_false]
      have hO : prOk b e = false := by unfold prOk; rw [hG]; rfl
      refine condT (decide_eq_true (by omega)) ⟨?_, ?_⟩
      · unfold prX prAd prLn
        rw [hO]; rfl
      · refine (keepS (tkR_is hb) _ _ _ _).trans ?_
        simp only [prT, prB, prA, prE, hG, cond_false]; rfl
  · have hG : prG b e = false := by unfold prG; rw [decide_eq_false h1, Bool.false_and]
    have hO : prOk b e = false := by unfold prOk; rw [hG]; rfl
    refine condT (by rw [neI]; exact congrArg Bool.not (decide_eq_false h1)) ⟨?_, ?_⟩
    · unfold prX prAd prLn
      rw [hO]; rfl
    · refine (keepS (tkR_is hb) _ _ _ _).trans ?_
      simp only [prT, prB, prA, prE, hG, cond_false]; rfl
theorem prd4 {b : Bs} (hb : IsB b) (a e : Int) {z0 z1 z2 z3 : Int} (hz0 : 0 ≤ z0 ∧ z0 < 256) (hz1 : 0 ≤ z1 ∧ z1 < 256) (hz2 : 0 ≤ z2 ∧ z2 < 256) (hz3 : 0 ≤ z3 ∧ z3 < 256) (hl : prG b e = true → prL b e = [bT z0, bT z1, bT z2, bT z3]) : VCx Tryz.prog noGl 0 pRdF [.ptr 0 0] ⟨[srcO b a e], []⟩ fun x T' => x = prX b e ∧ T' = prT b a e := by
  obtain ⟨hn0, hn1⟩ := nm1 hb e
  refine VCx.keepQ 1 0 (Nat.le_refl _) (Nat.le_refl _) (vcallF_is mixedB_Tryz bodiesB_Tryz (prSp [bT z0, bT z1, bT z2, bT z3]) lsOk_none (ev_prd4 b a e z0 z1 z2 z3 _) ?_)
  refine ⟨⟨rfl, hb⟩, ⟨rfl, tkR_is hb⟩, ?_⟩
  by_cases h1 : tkE 1 b e = 0
  · refine condF (by rw [neI]; exact congrArg Bool.not (decide_eq_true h1)) ?_
    by_cases h2 : nmB 1 b e ≤ 32
    · have hG : prG b e = true := by unfold prG; rw [decide_eq_true h1, decide_eq_true h2]; rfl
      have hL := hl hG
      refine condF (decide_eq_false (by omega)) ?_
      try delta zzy3 zzy4 zzy5
      rw [ocW hn0 hn1]
      refine ⟨⟨⟨rfl, tkR_is hb⟩, hL⟩, ⟨rfl, tkR_is (tkR_is hb)⟩, ?_⟩
      have eT : ∀ l : List VO, VT.keep ⟨srcO (tkR (ocN (nmB 1 b e)) (tkR 1 b e) (tkE 1 b e)) (tkA (ocN (nmB 1 b e)) (tkR 1 b e) (tkE 1 b e) (tkA 1 b e a)) (tkE (ocN (nmB 1 b e)) (tkR 1 b e) (tkE 1 b e)) :: l, []⟩ 1 0 = prT b a e := fun l => by
        rw [keepS (tkR_is (tkR_is hb))]; simp only [prT, prB, prA, prE, prF, hG, cond_true]
      by_cases h3 : prF b e = 0
      · have hO : prOk b e = true := by unfold prOk; rw [hG, decide_eq_true h3]; rfl
        refine condF (by rw [neI]; exact congrArg Bool.not (decide_eq_true h3)) ⟨⟨hn0, h2⟩, ?_, eT _⟩
        unfold prX prAd prLn
        rw [hO]
        simp only [cond_true]
        refine congrArg (fun y => TV.tup [.agg [.val (.int .u32 (cnA y (nmB 1 b e))), .val (.int .i64 (nmB 1 b e))], .val (.bool true)]) ?_
        rw [hL]
        have ha := adB_is z0 z1 z2 z3
        rw [or_byte (n := 0) (z := z0) (by omega) (by omega) (by omega) (by omega)]
        rw [or_byte (n := (0 * 256 + z0)) (z := z1) (by omega) (by omega) (by omega) (by omega)]
        rw [or_byte (n := ((0 * 256 + z0) * 256 + z1)) (z := z2) (by omega) (by omega) (by omega) (by omega)]
        rw [or_byte (n := (((0 * 256 + z0) * 256 + z1) * 256 + z2)) (z := z3) (by omega) (by omega) (by omega) (by omega)]
        have hw64 : IntKind.wrap .u64 ((((0 * 256 + z0) * 256 + z1) * 256 + z2) * 256 + z3) = ((((0 * 256 + z0) * 256 + z1) * 256 + z2) * 256 + z3) := by simp only [IntKind.wrap, IntKind.bits, IntKind.signed]; simp <;> omega
        have hw32 : IntKind.wrap .u32 ((((0 * 256 + z0) * 256 + z1) * 256 + z2) * 256 + z3) = ((((0 * 256 + z0) * 256 + z1) * 256 + z2) * 256 + z3) := by simp only [IntKind.wrap, IntKind.bits, IntKind.signed]; simp <;> omega
        rw [ha.1]
        first | rw [hw64, hw32] | rw [hw32] | skip
        omega
      · have hO : prOk b e = false := by unfold prOk; rw [hG, decide_eq_false h3]; rfl
        refine condT (by rw [neI]; exact congrArg Bool.not (decide_eq_false h3)) ⟨?_, eT _⟩
        unfold prX prAd prLn
        rw [hO]; rfl
    · have hG : prG b e = false := by unfold prG; rw [decide_eq_false h2, Bool.and_false]
      have hO : prOk b e = false := by unfold prOk; rw [hG]; rfl
      refine condT (decide_eq_true (by omega)) ⟨?_, ?_⟩
      · unfold prX prAd prLn
        rw [hO]; rfl
      · refine (keepS (tkR_is hb) _ _ _ _).trans ?_
        simp only [prT, prB, prA, prE, hG, cond_false]; rfl
  · have hG : prG b e = false := by unfold prG; rw [decide_eq_false h1, Bool.false_and]
    have hO : prOk b e = false := by unfold prOk; rw [hG]; rfl
    refine condT (by rw [neI]; exact congrArg Bool.not (decide_eq_false h1)) ⟨?_, ?_⟩
    · unfold prX prAd prLn
      rw [hO]; rfl
    · refine (keepS (tkR_is hb) _ _ _ _).trans ?_
      simp only [prT, prB, prA, prE, hG, cond_false]; rfl
theorem qrd0 {B : Bs} (hB : IsB B) {n : Int} (hn : InB B n) (e : Int) (hl : prG (remB B n) e = true → prL (remB B n) e = []) : VCx Tryz.prog noGl 0 qRdF [.ptr 0 0] ⟨[rsO B n e], []⟩ fun x T' => x = prX (remB B n) e ∧ T' = rpT B n e := by
  have hb := remB_is hB n
  obtain ⟨hn0, hn1⟩ := nm1 hb e
  refine VCx.keepQ 1 0 (Nat.le_refl _) (Nat.le_refl _) (vcallF_is mixedB_Tryz bodiesB_Tryz (qrSp []) lsOk_none (ev_qrd0 B n e _) ?_)
  refine ⟨⟨rfl, hB, hn⟩, ?_⟩
  have hr1 : remB B (tkN 1 B n e) = tkR 1 (remB B n) e := tkN_rem hn 1 e
  have hn2 := tkN_in hn 1 e
  by_cases h1 : tkE 1 (remB B n) e = 0
  · refine condF (by rw [neI]; exact congrArg Bool.not (decide_eq_true h1)) ?_
    by_cases h2 : nmB 1 (remB B n) e ≤ 32
    · have hG : prG (remB B n) e = true := by unfold prG; rw [decide_eq_true h1, decide_eq_true h2]; rfl
      have hL := hl hG
      refine condF (decide_eq_false (by omega)) ?_
      try delta zzy6 zzy7
      rw [ocW2 hn0 hn1]
      refine ⟨⟨⟨rfl, hB, hn2⟩, (congrArg (fun y => tkB (ocN (nmB 1 (remB B n) e)) y (tkE 1 (remB B n) e)) hr1).trans hL⟩, ?_⟩
      have eF : tkE (ocN (nmB 1 (remB B n) e)) (remB B (tkN (1 : Nat) B n e)) (tkE (1 : Nat) (remB B n) e) = prF (remB B n) e := (congrArg (fun y => tkE (ocN (nmB 1 (remB B n) e)) y (tkE 1 (remB B n) e)) hr1)
      rw [eF]
      have eT : ∀ l : List VO, VT.keep ⟨rsO B (tkN (ocN (nmB 1 (remB B n) e)) B (tkN 1 B n e) (tkE 1 (remB B n) e)) (prF (remB B n) e) :: l, []⟩ 1 0 = rpT B n e := fun l => by
        rw [keepR hB]; simp only [rpT, rpN, prE, hG, cond_true]
      by_cases h3 : prF (remB B n) e = 0
      · have hO : prOk (remB B n) e = true := by unfold prOk; rw [hG, decide_eq_true h3]; rfl
        refine condF (by rw [neI]; exact congrArg Bool.not (decide_eq_true h3)) ⟨⟨hn0, h2⟩, ?_, eT _⟩
        unfold prX prAd prLn
        rw [hO]
        simp only [cond_true]
        refine congrArg (fun y => TV.tup [.agg [.val (.int .u32 (cnA y (nmB 1 (remB B n) e))), .val (.int .i64 (nmB 1 (remB B n) e))], .val (.bool true)]) ?_
        rw [hL]
        have ha := adB_is 0 0 0 0
        rw [ha.2.2.2.2]
      · have hO : prOk (remB B n) e = false := by unfold prOk; rw [hG, decide_eq_false h3]; rfl
        refine condT (by rw [neI]; exact congrArg Bool.not (decide_eq_false h3)) ⟨?_, eT _⟩
        unfold prX prAd prLn
        rw [hO]; rfl
    · have hG : prG (remB B n) e = false := by unfold prG; rw [decide_eq_false h2, Bool.and_false]
      have hO : prOk (remB B n) e = false := by unfold prOk; rw [hG]; rfl
      refine condT (decide_eq_true (by omega)) ⟨?_, ?_⟩
      · unfold prX prAd prLn
        rw [hO]; rfl
      · refine (keepR hB _ _ _ _).trans ?_
        simp only [rpT, rpN, prE, hG, cond_false]; rfl
  · have hG : prG (remB B n) e = false := by unfold prG; rw [decide_eq_false h1, Bool.false_and]
    have hO : prOk (remB B n) e = false := by unfold prOk; rw [hG]; rfl
    refine condT (by rw [neI]; exact congrArg Bool.not (decide_eq_false h1)) ⟨?_, ?_⟩
    · unfold prX prAd prLn
      rw [hO]; rfl
    · refine (keepR hB _ _ _ _).trans ?_
      simp only [rpT, rpN, prE, hG, cond_false]; rfl
theorem qrd1 {B : Bs} (hB : IsB B) {n : Int} (hn : InB B n) (e : Int) {z0 : Int} (hz0 : 0 ≤ z0 ∧ z0 < 256) (hl : prG (remB B n) e = true → prL (remB B n) e = [bT z0]) : VCx Tryz.prog noGl 0 qRdF [.ptr 0 0] ⟨[rsO B n e], []⟩ fun x T' => x = prX (remB B n) e ∧ T' = rpT B n e := by
  have hb := remB_is hB n
  obtain ⟨hn0, hn1⟩ := nm1 hb e
  refine VCx.keepQ 1 0 (Nat.le_refl _) (Nat.le_refl _) (vcallF_is mixedB_Tryz bodiesB_Tryz (qrSp [bT z0]) lsOk_none (ev_qrd1 B n e z0 _) ?_)
  refine ⟨⟨rfl, hB, hn⟩, ?_⟩
  have hr1 : remB B (tkN 1 B n e) = tkR 1 (remB B n) e := tkN_rem hn 1 e
  have hn2 := tkN_in hn 1 e
  by_cases h1 : tkE 1 (remB B n) e = 0
  · refine condF (by rw [neI]; exact congrArg Bool.not (decide_eq_true h1)) ?_
    by_cases h2 : nmB 1 (remB B n) e ≤ 32
    · have hG : prG (remB B n) e = true := by unfold prG; rw [decide_eq_true h1, decide_eq_true h2]; rfl
      have hL := hl hG
      refine condF (decide_eq_false (by omega)) ?_
      try delta zzy6 zzy7 zzy8
      rw [ocW2 hn0 hn1]
      refine ⟨⟨⟨rfl, hB, hn2⟩, (congrArg (fun y => tkB (ocN (nmB 1 (remB B n) e)) y (tkE 1 (remB B n) e)) hr1).trans hL⟩, ?_⟩
      have eF : tkE (ocN (nmB 1 (remB B n) e)) (remB B (tkN (1 : Nat) B n e)) (tkE (1 : Nat) (remB B n) e) = prF (remB B n) e := (congrArg (fun y => tkE (ocN (nmB 1 (remB B n) e)) y (tkE 1 (remB B n) e)) hr1)
      rw [eF]
      have eT : ∀ l : List VO, VT.keep ⟨rsO B (tkN (ocN (nmB 1 (remB B n) e)) B (tkN 1 B n e) (tkE 1 (remB B n) e)) (prF (remB B n) e) :: l, []⟩ 1 0 = rpT B n e := fun l => by
        rw [keepR hB]; simp only [rpT, rpN, prE, hG, cond_true]
      by_cases h3 : prF (remB B n) e = 0
      · have hO : prOk (remB B n) e = true := by unfold prOk; rw [hG, decide_eq_true h3]; rfl
        refine condF (by rw [neI]; exact congrArg Bool.not (decide_eq_true h3)) ⟨⟨hn0, h2⟩, ?_, eT _⟩
        unfold prX prAd prLn
        rw [hO]
        simp only [cond_true]
        refine congrArg (fun y => TV.tup [.agg [.val (.int .u32 (cnA y (nmB 1 (remB B n) e))), .val (.int .i64 (nmB 1 (remB B n) e))], .val (.bool true)]) ?_
        rw [hL]
        have ha := adB_is z0 0 0 0
        rw [ha.2.2.2.1]
        refine Eq.trans (b := wo (0) z0 24) (by kernel_rfl) ?_
        rw [show wo (0) z0 24 = (0) * 2 ^ (24 + 8) + z0 * 2 ^ 24 from (congrArg (fun y => wo y z0 24) (show 0 = (0) * 2 ^ (24 + 8) by omega)).trans (wo_add' 24 (by omega) (by omega) (by omega) (by omega) (by omega))]
        omega
      · have hO : prOk (remB B n) e = false := by unfold prOk; rw [hG, decide_eq_false h3]; rfl
        refine condT (by rw [neI]; exact congrArg Bool.not (decide_eq_false h3)) ⟨?_, eT _⟩
        unfold prX prAd prLn
        rw [hO]; rfl
    · have hG : prG (remB B n) e = false := by unfold prG; rw [decide_eq_false h2, Bool.and_false]
      have hO : prOk (remB B n) e = false := by unfold prOk; rw [hG]; rfl
      refine condT (decide_eq_true (by omega)) ⟨?_, ?_⟩
      · unfold prX prAd prLn
        rw [hO]; rfl
      · refine (keepR hB _ _ _ _).trans ?_
        simp only [rpT, rpN, prE, hG, cond_false]; rfl
  · have hG : prG (remB B n) e = false := by unfold prG; rw [decide_eq_false h1, Bool.false_and]
    have hO : prOk (remB B n) e = false := by unfold prOk; rw [hG]; rfl
    refine condT (by rw [neI]; exact congrArg Bool.not (decide_eq_false h1)) ⟨?_, ?_⟩
    · unfold prX prAd prLn
      rw [hO]; rfl
    · refine (keepR hB _ _ _ _).trans ?_
      simp only [rpT, rpN, prE, hG, cond_false]; rfl
theorem qrd2 {B : Bs} (hB : IsB B) {n : Int} (hn : InB B n) (e : Int) {z0 z1 : Int} (hz0 : 0 ≤ z0 ∧ z0 < 256) (hz1 : 0 ≤ z1 ∧ z1 < 256) (hl : prG (remB B n) e = true → prL (remB B n) e = [bT z0, bT z1]) : VCx Tryz.prog noGl 0 qRdF [.ptr 0 0] ⟨[rsO B n e], []⟩ fun x T' => x = prX (remB B n) e ∧ T' = rpT B n e := by
  have hb := remB_is hB n
  obtain ⟨hn0, hn1⟩ := nm1 hb e
  refine VCx.keepQ 1 0 (Nat.le_refl _) (Nat.le_refl _) (vcallF_is mixedB_Tryz bodiesB_Tryz (qrSp [bT z0, bT z1]) lsOk_none (ev_qrd2 B n e z0 z1 _) ?_)
  refine ⟨⟨rfl, hB, hn⟩, ?_⟩
  have hr1 : remB B (tkN 1 B n e) = tkR 1 (remB B n) e := tkN_rem hn 1 e
  have hn2 := tkN_in hn 1 e
  by_cases h1 : tkE 1 (remB B n) e = 0
  · refine condF (by rw [neI]; exact congrArg Bool.not (decide_eq_true h1)) ?_
    by_cases h2 : nmB 1 (remB B n) e ≤ 32
    · have hG : prG (remB B n) e = true := by unfold prG; rw [decide_eq_true h1, decide_eq_true h2]; rfl
      have hL := hl hG
      refine condF (decide_eq_false (by omega)) ?_
      try delta zzy6 zzy7 zzy9
      rw [ocW2 hn0 hn1]
      refine ⟨⟨⟨rfl, hB, hn2⟩, (congrArg (fun y => tkB (ocN (nmB 1 (remB B n) e)) y (tkE 1 (remB B n) e)) hr1).trans hL⟩, ?_⟩
      have eF : tkE (ocN (nmB 1 (remB B n) e)) (remB B (tkN (1 : Nat) B n e)) (tkE (1 : Nat) (remB B n) e) = prF (remB B n) e := (congrArg (fun y => tkE (ocN (nmB 1 (remB B n) e)) y (tkE 1 (remB B n) e)) hr1)
      rw [eF]
      have eT : ∀ l : List VO, VT.keep ⟨rsO B (tkN (ocN (nmB 1 (remB B n) e)) B (tkN 1 B n e) (tkE 1 (remB B n) e)) (prF (remB B n) e) :: l, []⟩ 1 0 = rpT B n e := fun l => by
        rw [keepR hB]; simp only [rpT, rpN, prE, hG, cond_true]
      by_cases h3 : prF (remB B n) e = 0
      · have hO : prOk (remB B n) e = true := by unfold prOk; rw [hG, decide_eq_true h3]; rfl
        refine condF (by rw [neI]; exact congrArg Bool.not (decide_eq_true h3)) ⟨⟨hn0, h2⟩, ?_, eT _⟩
        unfold prX prAd prLn
        rw [hO]
        simp only [cond_true]
        refine congrArg (fun y => TV.tup [.agg [.val (.int .u32 (cnA y (nmB 1 (remB B n) e))), .val (.int .i64 (nmB 1 (remB B n) e))], .val (.bool true)]) ?_
        rw [hL]
        have ha := adB_is z0 z1 0 0
        rw [ha.2.2.1]
        refine Eq.trans (b := wo (wo (0) z0 24) z1 16) (by kernel_rfl) ?_
        rw [show wo (0) z0 24 = (0) * 2 ^ (24 + 8) + z0 * 2 ^ 24 from (congrArg (fun y => wo y z0 24) (show 0 = (0) * 2 ^ (24 + 8) by omega)).trans (wo_add' 24 (by omega) (by omega) (by omega) (by omega) (by omega))]
        rw [show wo ((0) * 2 ^ (24 + 8) + z0 * 2 ^ 24) z1 16 = (z0) * 2 ^ (16 + 8) + z1 * 2 ^ 16 from (congrArg (fun y => wo y z1 16) (show (0) * 2 ^ (24 + 8) + z0 * 2 ^ 24 = (z0) * 2 ^ (16 + 8) by omega)).trans (wo_add' 16 (by omega) (by omega) (by omega) (by omega) (by omega))]
        omega
      · have hO : prOk (remB B n) e = false := by unfold prOk; rw [hG, decide_eq_false h3]; rfl
        refine condT (by rw [neI]; exact congrArg Bool.not (decide_eq_false h3)) ⟨?_, eT _⟩
        unfold prX prAd prLn
        rw [hO]; rfl
    · have hG : prG (remB B n) e = false := by unfold prG; rw [decide_eq_false h2, Bool.and_false]
      have hO : prOk (remB B n) e = false := by unfold prOk; rw [hG]; rfl
      refine condT (decide_eq_true (by omega)) ⟨?_, ?_⟩
      · unfold prX prAd prLn
        rw [hO]; rfl
      · refine (keepR hB _ _ _ _).trans ?_
        simp only [rpT, rpN, prE, hG, cond_false]; rfl
  · have hG : prG (remB B n) e = false := by unfold prG; rw [decide_eq_false h1, Bool.false_and]
    have hO : prOk (remB B n) e = false := by unfold prOk; rw [hG]; rfl
    refine condT (by rw [neI]; exact congrArg Bool.not (decide_eq_false h1)) ⟨?_, ?_⟩
    · unfold prX prAd prLn
      rw [hO]; rfl
    · refine (keepR hB _ _ _ _).trans ?_
      simp only [rpT, rpN, prE, hG, cond_false]; rfl
theorem qrd3 {B : Bs} (hB : IsB B) {n : Int} (hn : InB B n) (e : Int) {z0 z1 z2 : Int} (hz0 : 0 ≤ z0 ∧ z0 < 256) (hz1 : 0 ≤ z1 ∧ z1 < 256) (hz2 : 0 ≤ z2 ∧ z2 < 256) (hl : prG (remB B n) e = true → prL (remB B n) e = [bT z0, bT z1, bT z2]) : VCx Tryz.prog noGl 0 qRdF [.ptr 0 0] ⟨[rsO B n e], []⟩ fun x T' => x = prX (remB B n) e ∧ T' = rpT B n e := by
  have hb := remB_is hB n
  obtain ⟨hn0, hn1⟩ := nm1 hb e
  refine VCx.keepQ 1 0 (Nat.le_refl _) (Nat.le_refl _) (vcallF_is mixedB_Tryz bodiesB_Tryz (qrSp [bT z0, bT z1, bT z2]) lsOk_none (ev_qrd3 B n e z0 z1 z2 _) ?_)
  refine ⟨⟨rfl, hB, hn⟩, ?_⟩
  have hr1 : remB B (tkN 1 B n e) = tkR 1 (remB B n) e := tkN_rem hn 1 e
  have hn2 := tkN_in hn 1 e
  by_cases h1 : tkE 1 (remB B n) e = 0
  · refine condF (by rw [neI]; exact congrArg Bool.not (decide_eq_true h1)) ?_
    by_cases h2 : nmB 1 (remB B n) e ≤ 32
    · have hG : prG (remB B n) e = true := by unfold prG; rw [decide_eq_true h1, decide_eq_true h2]; rfl
      have hL := hl hG
      refine condF (decide_eq_false (by omega)) ?_
      try delta zzy10 zzy6 zzy7
      rw [ocW2 hn0 hn1]
      refine ⟨⟨⟨rfl, hB, hn2⟩, (congrArg (fun y => tkB (ocN (nmB 1 (remB B n) e)) y (tkE 1 (remB B n) e)) hr1).trans hL⟩, ?_⟩
      have eF : tkE (ocN (nmB 1 (remB B n) e)) (remB B (tkN (1 : Nat) B n e)) (tkE (1 : Nat) (remB B n) e) = prF (remB B n) e := (congrArg (fun y => tkE (ocN (nmB 1 (remB B n) e)) y (tkE 1 (remB B n) e)) hr1)
      rw [eF]
      have eT : ∀ l : List VO, VT.keep ⟨rsO B (tkN (ocN (nmB 1 (remB B n) e)) B (tkN 1 B n e) (tkE 1 (remB B n) e)) (prF (remB B n) e) :: l, []⟩ 1 0 = rpT B n e := fun l => by
        rw [keepR hB]; simp only [rpT, rpN, prE, hG, cond_true]
      by_cases h3 : prF (remB B n) e = 0
      · have hO : prOk (remB B n) e = true := by unfold prOk; rw [hG, decide_eq_true h3]; rfl
        refine condF (by rw [neI]; exact congrArg Bool.not (decide_eq_true h3)) ⟨⟨hn0, h2⟩, ?_, eT _⟩
        unfold prX prAd prLn
        rw [hO]
        simp only [cond_true]
        refine congrArg (fun y => TV.tup [.agg [.val (.int .u32 (cnA y (nmB 1 (remB B n) e))), .val (.int .i64 (nmB 1 (remB B n) e))], .val (.bool true)]) ?_
        rw [hL]
        have ha := adB_is z0 z1 z2 0
        rw [ha.2.1]
        refine Eq.trans (b := wo (wo (wo (0) z0 24) z1 16) z2 8) (by kernel_rfl) ?_
        rw [show wo (0) z0 24 = (0) * 2 ^ (24 + 8) + z0 * 2 ^ 24 from (congrArg (fun y => wo y z0 24) (show 0 = (0) * 2 ^ (24 + 8) by omega)).trans (wo_add' 24 (by omega) (by omega) (by omega) (by omega) (by omega))]
        rw [show wo ((0) * 2 ^ (24 + 8) + z0 * 2 ^ 24) z1 16 = (z0) * 2 ^ (16 + 8) + z1 * 2 ^ 16 from (congrArg (fun y => wo y z1 16) (show (0) * 2 ^ (24 + 8) + z0 * 2 ^ 24 = (z0) * 2 ^ (16 + 8) by omega)).trans (wo_add' 16 (by omega) (by omega) (by omega) (by omega) (by omega))]
        rw [show wo ((z0) * 2 ^ (16 + 8) + z1 * 2 ^ 16) z2 8 = ((z0) * 256 + z1) * 2 ^ (8 + 8) + z2 * 2 ^ 8 from (congrArg (fun y => wo y z2 8) (show (z0) * 2 ^ (16 + 8) + z1 * 2 ^ 16 = ((z0) * 256 + z1) * 2 ^ (8 + 8) by omega)).trans (wo_add' 8 (by omega) (by omega) (by omega) (by omega) (by omega))]
        omega
      · have hO : prOk (remB B n) e = false := by unfold prOk; rw [hG, decide_eq_false h3]; rfl
        refine condT (by rw [neI]; exact congrArg Bool.not (decide_eq_false h3)) ⟨?_, eT _⟩
        unfold prX prAd prLn
        rw [hO]; rfl
    · have hG : prG (remB B n) e = false := by unfold prG; rw [decide_eq_false h2, Bool.and_false]
      have hO : prOk (remB B n) e = false := by unfold prOk; rw [hG]; rfl
      refine condT (decide_eq_true (by omega)) ⟨?_, ?_⟩
      · unfold prX prAd prLn
        rw [hO]; rfl
      · refine (keepR hB _ _ _ _).trans ?_
        simp only [rpT, rpN, prE, hG, cond_false]; rfl
  · have hG : prG (remB B n) e = false := by unfold prG; rw [decide_eq_false h1, Bool.false_and]
    have hO : prOk (remB B n) e = false := by unfold prOk; rw [hG]; rfl
    refine condT (by rw [neI]; exact congrArg Bool.not (decide_eq_false h1)) ⟨?_, ?_⟩
    · unfold prX prAd prLn
      rw [hO]; rfl
    · refine (keepR hB _ _ _ _).trans ?_
      simp only [rpT, rpN, prE, hG, cond_false]; rfl
theorem qrd4 {B : Bs} (hB : IsB B) {n : Int} (hn : InB B n) (e : Int) {z0 z1 z2 z3 : Int} (hz0 : 0 ≤ z0 ∧ z0 < 256) (hz1 : 0 ≤ z1 ∧ z1 < 256) (hz2 : 0 ≤ z2 ∧ z2 < 256) (hz3 : 0 ≤ z3 ∧ z3 < 256) (hl : prG (remB B n) e = true → prL (remB B n) e = [bT z0, bT z1, bT z2, bT z3]) : VCx Tryz.prog noGl 0 qRdF [.ptr 0 0] ⟨[rsO B n e], []⟩ fun x T' => x = prX (remB B n) e ∧ T' = rpT B n e := by
  have hb := remB_is hB n
  obtain ⟨hn0, hn1⟩ := nm1 hb e
  refine VCx.keepQ 1 0 (Nat.le_refl _) (Nat.le_refl _) (vcallF_is mixedB_Tryz bodiesB_Tryz (qrSp [bT z0, bT z1, bT z2, bT z3]) lsOk_none (ev_qrd4 B n e z0 z1 z2 z3 _) ?_)
  refine ⟨⟨rfl, hB, hn⟩, ?_⟩
  have hr1 : remB B (tkN 1 B n e) = tkR 1 (remB B n) e := tkN_rem hn 1 e
  have hn2 := tkN_in hn 1 e
  by_cases h1 : tkE 1 (remB B n) e = 0
  · refine condF (by rw [neI]; exact congrArg Bool.not (decide_eq_true h1)) ?_
    by_cases h2 : nmB 1 (remB B n) e ≤ 32
    · have hG : prG (remB B n) e = true := by unfold prG; rw [decide_eq_true h1, decide_eq_true h2]; rfl
      have hL := hl hG
      refine condF (decide_eq_false (by omega)) ?_
      try delta zzy11 zzy6 zzy7
      rw [ocW2 hn0 hn1]
      refine ⟨⟨⟨rfl, hB, hn2⟩, (congrArg (fun y => tkB (ocN (nmB 1 (remB B n) e)) y (tkE 1 (remB B n) e)) hr1).trans hL⟩, ?_⟩
      have eF : tkE (ocN (nmB 1 (remB B n) e)) (remB B (tkN (1 : Nat) B n e)) (tkE (1 : Nat) (remB B n) e) = prF (remB B n) e := (congrArg (fun y => tkE (ocN (nmB 1 (remB B n) e)) y (tkE 1 (remB B n) e)) hr1)
      rw [eF]
      have eT : ∀ l : List VO, VT.keep ⟨rsO B (tkN (ocN (nmB 1 (remB B n) e)) B (tkN 1 B n e) (tkE 1 (remB B n) e)) (prF (remB B n) e) :: l, []⟩ 1 0 = rpT B n e := fun l => by
        rw [keepR hB]; simp only [rpT, rpN, prE, hG, cond_true]
      by_cases h3 : prF (remB B n) e = 0
      · have hO : prOk (remB B n) e = true := by unfold prOk; rw [hG, decide_eq_true h3]; rfl
        refine condF (by rw [neI]; exact congrArg Bool.not (decide_eq_true h3)) ⟨⟨hn0, h2⟩, ?_, eT _⟩
        unfold prX prAd prLn
        rw [hO]
        simp only [cond_true]
        refine congrArg (fun y => TV.tup [.agg [.val (.int .u32 (cnA y (nmB 1 (remB B n) e))), .val (.int .i64 (nmB 1 (remB B n) e))], .val (.bool true)]) ?_
        rw [hL]
        have ha := adB_is z0 z1 z2 z3
        rw [ha.1]
        refine Eq.trans (b := wo (wo (wo (wo (0) z0 24) z1 16) z2 8) z3 0) (by kernel_rfl) ?_
        rw [show wo (0) z0 24 = (0) * 2 ^ (24 + 8) + z0 * 2 ^ 24 from (congrArg (fun y => wo y z0 24) (show 0 = (0) * 2 ^ (24 + 8) by omega)).trans (wo_add' 24 (by omega) (by omega) (by omega) (by omega) (by omega))]
        rw [show wo ((0) * 2 ^ (24 + 8) + z0 * 2 ^ 24) z1 16 = (z0) * 2 ^ (16 + 8) + z1 * 2 ^ 16 from (congrArg (fun y => wo y z1 16) (show (0) * 2 ^ (24 + 8) + z0 * 2 ^ 24 = (z0) * 2 ^ (16 + 8) by omega)).trans (wo_add' 16 (by omega) (by omega) (by omega) (by omega) (by omega))]
        rw [show wo ((z0) * 2 ^ (16 + 8) + z1 * 2 ^ 16) z2 8 = ((z0) * 256 + z1) * 2 ^ (8 + 8) + z2 * 2 ^ 8 from (congrArg (fun y => wo y z2 8) (show (z0) * 2 ^ (16 + 8) + z1 * 2 ^ 16 = ((z0) * 256 + z1) * 2 ^ (8 + 8) by omega)).trans (wo_add' 8 (by omega) (by omega) (by omega) (by omega) (by omega))]
        rw [show wo (((z0) * 256 + z1) * 2 ^ (8 + 8) + z2 * 2 ^ 8) z3 0 = (((z0) * 256 + z1) * 256 + z2) * 2 ^ (0 + 8) + z3 * 2 ^ 0 from (congrArg (fun y => wo y z3 0) (show ((z0) * 256 + z1) * 2 ^ (8 + 8) + z2 * 2 ^ 8 = (((z0) * 256 + z1) * 256 + z2) * 2 ^ (0 + 8) by omega)).trans (wo_add' 0 (by omega) (by omega) (by omega) (by omega) (by omega))]
        omega
      · have hO : prOk (remB B n) e = false := by unfold prOk; rw [hG, decide_eq_false h3]; rfl
        refine condT (by rw [neI]; exact congrArg Bool.not (decide_eq_false h3)) ⟨?_, eT _⟩
        unfold prX prAd prLn
        rw [hO]; rfl
    · have hG : prG (remB B n) e = false := by unfold prG; rw [decide_eq_false h2, Bool.and_false]
      have hO : prOk (remB B n) e = false := by unfold prOk; rw [hG]; rfl
      refine condT (decide_eq_true (by omega)) ⟨?_, ?_⟩
      · unfold prX prAd prLn
        rw [hO]; rfl
      · refine (keepR hB _ _ _ _).trans ?_
        simp only [rpT, rpN, prE, hG, cond_false]; rfl
  · have hG : prG (remB B n) e = false := by unfold prG; rw [decide_eq_false h1, Bool.false_and]
    have hO : prOk (remB B n) e = false := by unfold prOk; rw [hG]; rfl
    refine condT (by rw [neI]; exact congrArg Bool.not (decide_eq_false h1)) ⟨?_, ?_⟩
    · unfold prX prAd prLn
      rw [hO]; rfl
    · refine (keepR hB _ _ _ _).trans ?_
      simp only [rpT, rpN, prE, hG, cond_false]; rfl
theorem prL_cases {b : Bs} (hb : IsB b) (e : Int) : prG b e = false ∨ prL b e = [] ∨ (∃ z0, (0 ≤ z0 ∧ z0 < 256) ∧ prL b e = [bT z0]) ∨ (∃ z0 z1, (0 ≤ z0 ∧ z0 < 256) ∧ (0 ≤ z1 ∧ z1 < 256) ∧ prL b e = [bT z0, bT z1]) ∨ (∃ z0 z1 z2, (0 ≤ z0 ∧ z0 < 256) ∧ (0 ≤ z1 ∧ z1 < 256) ∧ (0 ≤ z2 ∧ z2 < 256) ∧ prL b e = [bT z0, bT z1, bT z2]) ∨
  ∃ z0 z1 z2 z3, (0 ≤ z0 ∧ z0 < 256) ∧ (0 ≤ z1 ∧ z1 < 256) ∧ (0 ≤ z2 ∧ z2 < 256) ∧ (0 ≤ z3 ∧ z3 < 256) ∧ prL b e = [bT z0, bT z1, bT z2, bT z3] := by
 obtain ⟨hn0, hn1⟩ := nm1 hb e
 by_cases hg : prG b e = true
 ·refine .inr ?_
  have h32 : nmB 1 b e ≤ 32 := by
   simp only [prG, Bool.and_eq_true, decide_eq_true_eq] at hg; exact hg.2
  obtain ⟨⟨l, hl, hz⟩, _⟩ : IsB (prL b e) := tkB_is (tkR_is hb)
  have hlen : l.length ≤ 4 := by
   have h1 : ((prL b e).length : Int) = bif tkOk (ocN (nmB 1 b e)) (tkR 1 b e) (tkE 1 b e) then ocN (nmB 1 b e) else 0 := tkB_len
   have h2 : ocN (nmB 1 b e) ≤ 4 := by
    unfold ocN
    have := Int.tdiv_eq_ediv_of_nonneg (a := nmB 1 b e + 7) (b := 8) (by omega)
    omega
   have h3 : (prL b e).length = l.length := by rw [hl]; simp [bV]
   cases hc : tkOk (ocN (nmB 1 b e)) (tkR 1 b e) (tkE 1 b e) <;> rw [hc] at h1
   ·simp only [cond_false] at h1; omega
   ·simp only [cond_true] at h1; omega
  rw [hl]
  rcases l with _ | ⟨a, _ | ⟨c, _ | ⟨d, _ | ⟨f, _ | ⟨g, l⟩⟩⟩⟩⟩
  ·exact .inl rfl
  ·exact .inr (.inl ⟨a, hz a (by simp), rfl⟩)
  ·exact .inr (.inr (.inl ⟨a, c, hz a (by simp), hz c (by simp), rfl⟩))
  ·exact .inr (.inr (.inr (.inl ⟨a, c, d, hz a (by simp), hz c (by simp), hz d (by simp), rfl⟩)))
  ·exact .inr (.inr (.inr (.inr ⟨a, c, d, f, hz a (by simp), hz c (by simp), hz d (by simp), hz f (by simp), rfl⟩)))
  ·simp only [List.length_cons] at hlen; omega
 ·exact .inl (Bool.eq_false_iff.2 hg)
theorem prd_vcx {b : Bs} (hb : IsB b) (a e : Int) : VCx Tryz.prog noGl 0 pRdF [.ptr 0 0] ⟨[srcO b a e], []⟩ fun x T' => x = prX b e ∧ T' = prT b a e := by
 rcases prL_cases hb e with h | h | ⟨z0, h0, h⟩ | ⟨z0, z1, h0, h1, h⟩ | ⟨z0, z1, z2, h0, h1, h2, h⟩ | ⟨z0, z1, z2, z3, h0, h1, h2, h3, h⟩
 ·exact prd0 hb a e fun hg => by rw [h] at hg; cases hg
 ·exact prd0 hb a e fun _ => h
 ·exact prd1 hb a e h0 fun _ => h
 ·exact prd2 hb a e h0 h1 fun _ => h
 ·exact prd3 hb a e h0 h1 h2 fun _ => h
 ·exact prd4 hb a e h0 h1 h2 h3 fun _ => h
theorem qrd_vcx {B : Bs} (hB : IsB B) {n : Int} (hn : InB B n) (e : Int) : VCx Tryz.prog noGl 0 qRdF [.ptr 0 0] ⟨[rsO B n e], []⟩ fun x T' => x = prX (remB B n) e ∧ T' = rpT B n e := by
 rcases prL_cases (remB_is hB n) e with h | h | ⟨z0, h0, h⟩ | ⟨z0, z1, h0, h1, h⟩ | ⟨z0, z1, z2, h0, h1, h2, h⟩ | ⟨z0, z1, z2, z3, h0, h1, h2, h3, h⟩
 ·exact qrd0 hB hn e fun hg => by rw [h] at hg; cases hg
 ·exact qrd0 hB hn e fun _ => h
 ·exact qrd1 hB hn e h0 fun _ => h
 ·exact qrd2 hB hn e h0 h1 fun _ => h
 ·exact qrd3 hB hn e h0 h1 h2 fun _ => h
 ·exact qrd4 hB hn e h0 h1 h2 h3 fun _ => h
end Go.Proofs.YtogbdjlelkepcaaGreatDoor
namespace Go.Proofs.YtogbdjlelkepcaaGreatDoor
open Go.RowKit

def TVle (x y : TV) : Prop := ∀ g w u, VR g w x u → VR g w y u
def TVleL : List TV → List TV → Prop
 | [], [] => True
 | x :: l, y :: m => TVle x y ∧ TVleL l m
 | _, _ => False
theorem TVle.refl (x : TV) : TVle x x := fun _ _ _ h => h
theorem TVle.of_eq {x y : TV} (h : x = y) : TVle x y := h ▸ TVle.refl x
theorem TVle.nil (size : Nat) : TVle (.val (.slice none 0 0)) (.vec size [] .none) := fun _ _ _ h => by
 obtain rfl := h.val_inv
 exact .nil trivial
theorem TVle.vec (size : Nat) (es : List (List TV)) (tok : Tok) : TVle (.vec size es tok) (.vec size es .none) := fun _ _ _ h => looseTV_ok h
theorem TVleL.at : ∀ {l m : List TV}, TVleL l m → l.length = m.length ∧ ∀ (j : Nat) x y, l[j]? = some x → m[j]? = some y → TVle x y
 | [], [], _ => ⟨rfl, fun j _ _ h => by simp at h⟩
 | a :: l, b :: m, h => by
  obtain ⟨h1, h2⟩ := TVleL.at h.2
  refine ⟨by simp [h1], fun j x y hx hy => ?_⟩
  cases j with
  | zero => simp at hx hy; subst hx hy; exact h.1
  | succ j => exact h2 j x y (by simpa using hx) (by simpa using hy)
 | [], _ :: _, h => h.elim
 | _ :: _, [], h => h.elim
theorem TVleL.vrs {l m : List TV} (h : TVleL l m) {g : Gh} {w : World} {us : List Value} (hv : VRs g w l us) : VRs g w m us := by
 obtain ⟨h1, h2⟩ := h.at
 refine ⟨by rw [hv.1, h1], fun j y u hy hu => ?_⟩
 have hj : j < l.length := by rw [h1]; exact (List.getElem?_eq_some_iff.1 hy).1
 exact h2 j _ y (List.getElem?_eq_getElem hj) hy g w u (hv.2 j _ u (List.getElem?_eq_getElem hj) hu)
theorem TVle.tup {l m : List TV} (h : TVleL l m) : TVle (.tup l) (.tup m) := fun g w u hu => by
 obtain ⟨us, rfl, hv⟩ := hu.tup_inv
 obtain ⟨h1, h2⟩ := h.vrs hv
 exact .tup h1 h2
theorem TVle.agg {l m : List TV} (h : TVleL l m) : TVle (.agg l) (.agg m) := fun g w u hu => by
 cases hu with
 | agg hl hv =>
  obtain ⟨h1, h2⟩ := h.vrs ⟨hl, hv⟩
  exact .agg h1 h2
theorem VCx.toLe {P : Program} {G : Globs} {f : FuncId} {xs : List TV} {T : VT} {y : TV} {Q : VT → Prop} (h : VCx P G 0 f xs T fun x T' => TVle x y ∧ Q T') : VCx P G 0 f xs T fun x T' => x = y ∧ Q T' := by
 intro g w us rw0 hG hx
 refine Calls.mono (h g w us rw0 hG hx) ?_
 rintro e w' ⟨v, x, g', T', he, ⟨hq, hQ⟩, e', r', hv, hfx⟩
 exact ⟨v, _, g', T', he, ⟨rfl, hQ⟩, e', r', hq _ _ _ hv, hfx⟩
end Go.Proofs.YtogbdjlelkepcaaGreatDoor
namespace Go.Proofs.YtogbdjlelkepcaaGreatDoor
open Go.RowKit

def prW : Spec := fun ro ys T K => match ys with
 | [.ptr k 0] => match T.objs[k]? with
  | some (.cells [.val (.bool true), .vec 1 b .none, .val (.int .i64 a), .val (.int .i64 e)]) => (Nat.ble ro k = true ∧ IsB b) ∧ K (.tup [.agg [.val (.int .u32 (prAd b e)), .val (.int .i64 (prLn b e))], .val (.bool (prOk b e))]) { T with objs := T.objs.set k (srcO (prB b e) (prA b e a) (prE b e)) }
  | _ => False
 | _ => False
def qrW : Spec := fun ro ys T K => match ys with
 | [.ptr j 0] => match T.objs[j]? with
  | some (.cells [.vec 1 B .none, .val (.int .i64 n), .val (.int .i64 e)]) => (Nat.ble ro j = true ∧ IsB B ∧ InB B n) ∧ K (.tup [.agg [.val (.int .u32 (prAd (remB B n) e)), .val (.int .i64 (prLn (remB B n) e))], .val (.bool (prOk (remB B n) e))]) { T with objs := T.objs.set j (rsO B (rpN B n e) (prE (remB B n) e)) }
  | _ => False
 | _ => False
def pxE (p : Int × Int) : List TV := [.val (.int .u32 p.1), .val (.int .i64 p.2)]
def ppK : List Nat := [2, 3, 4, 5]
def ppV (L : Bs) : List TV := [.val (.slice none 0 0), .val (.bool false), .ptr 0 0, .vec 2 L (.tail 0 L.length)]
def ppR (O : Bs → Int → Int → VO) (L : Bs) (ok : Bool) (K : KX) : Prop := ∀ (bz Lz : Bs) (az ez cz dz : Int), bif ok then K .normal (slotsN 25 ppK (ppV L)) ⟨[O bz az ez], [(L.length, 2, true)]⟩ [] else K .ret (slotsN 25 ppK (ppV Lz)) ⟨[O bz az ez, .cells [.val (.int .u32 cz), .val (.int .i64 dz)]], [(Lz.length, 2, true)]⟩ []
def ppL (O : Bs → Int → Int → VO) (b L : Bs) (ok : Bool) (c0 : Code) : Nat → Option (LSpec × Code) := specsL [(0, loopL 25 ppK [(5, 2)] (ppV []) ⟨[O b 0 0], [(0, 2, true)]⟩ (ppR O L ok), c0)]
theorem ev_pp (b L : Bs) (ok : Bool) (Q : TV → VT → Prop) : vcallF Tryz.prog noGl (specs [(wRdF, sreadW)]) noOra 300 (ppL srcO b L ok (codeAt Tryz.prog pPaF 0)) 0 pPaF [.vec 1 b .none] zz211 Q =
 (IsB (b) ∧
 ((codeAt Tryz.prog pPaF (0 : Nat) = codeAt Tryz.prog pPaF (0 : Nat)) ∧
 (((@Eq (Option Nat) .none .none) ∧
 ((@Eq (Nat) 0 0) ∧
 ((@Eq (List Nat) [] []) ∧
 (((@Eq (Option TV) (.some zz18) (.some zz18)) ∧
 True ) ∧
 ((@Eq (VT) ⟨[(.cells [zz133, (zz2 b), zz4, zz4])], [(0, (2, true))]⟩ ⟨[(.cells [zz133, (zz2 b), zz4, zz4])], [(0, (2, true))]⟩) ∧
 ((@Eq (Bool) true true) ∧
 (@Eq (List TV) zz194 zz194))))))) ∧
 (∀ bz : Bs, (∀ Lz : Bs, (∀ az : Int, (∀ ez : Int, (∀ cz : Int, (∀ dz : Int, (bif ok
 then Q (.tup [(zz168 L (List.length L)), zz133]) ⟨[(.cells [zz133, (zz2 bz), (zz1 az), (zz1 ez)])], [((List.length L), (2, true))]⟩
 else Q zz193 ⟨[(.cells [zz133, (zz2 bz), (zz1 az), (zz1 ez)]), (zz203 cz dz)], [((List.length Lz), (2, true))]⟩)))))))))) := by kernel_rfl
abbrev zzy12 (b : Bs) : VO := (zz203 (prAd b (0 : Int)) (prLn b (0 : Int)))
theorem ev_ppA (b L : Bs) (a : Int) (Q : Exit → List TV → VT → List Nat → Nat → Prop) : vx Tryz.prog noGl (specs [(wLeF, slW), (pRdF, prW)]) (tellS [(999999, .dead, none), (23, .vec 2 (L ++ [pxE (prAd b 0, prLn b 0)]) (.tail 0 (L.length + 1)), some fun T => { T with tails := [(L.length + 1, 2, true)] })]) 300 noLp none 0 (loopAt Tryz.prog pPaF 0) (slotsN 25 ppK (ppV L)) ⟨[srcO b a 0], [(L.length, 2, true)]⟩ [] (pickS ppK Q) =
 (((@Eq (Bool) true true) ∧
 IsB (b)) ∧
 (bif decide (leB b (0 : Int) > (0 : Int))
 then (((@Eq (Bool) true true) ∧
 IsB (b)) ∧
 (bif !prOk b (0 : Int)
 then Q .ret (zz192 L (List.length L)) ⟨[(.cells [zz133, (zz2 (prB b (0 : Int))), (zz1 (prA b (0 : Int) a)), (zz1 (prE b (0 : Int)))]), (zzy12 b)], [((List.length L), (2, true))]⟩ [] 25
 else (OTurn Tryz.prog (fun _ => .none) 0 ⟨[(.cells [zz133, (zz2 (prB b (0 : Int))), (zz1 (prA b (0 : Int) a)), (zz1 (prE b (0 : Int)))]), (zzy12 b)], [((List.length L), (2, true))]⟩ (.call ⟨(.builtin .append), #[(.tmp 20), (.tmp 22)], #[58, 58]⟩) [(20, (zz168 L (List.length L))), (22, (.vec 2 [[(.val (.int .u32 (prAd b (0 : Int)))), (.val (.int .i64 (prLn b (0 : Int))))]] .full))] (zz168 (L ++ [pxE (prAd b (0 : Int), prLn b (0 : Int))]) (List.length L + (1 : Nat))) ⟨[(.cells [zz133, (zz2 (prB b (0 : Int))), (zz1 (prA b (0 : Int) a)), (zz1 (prE b (0 : Int)))]), (zzy12 b)], [((List.length L + (1 : Nat)), (2, true))]⟩ ∧
 Q .normal (zz192 (L ++ [pxE (prAd b (0 : Int), prLn b (0 : Int))]) (List.length L + (1 : Nat))) ⟨[(.cells [zz133, (zz2 (prB b (0 : Int))), (zz1 (prA b (0 : Int) a)), (zz1 (prE b (0 : Int)))]), (zzy12 b)], [((List.length L + (1 : Nat)), (2, true))]⟩ [] 25)))
 else Q (.exit 0) (zz192 L (List.length L)) ⟨[(.cells [zz133, (zz2 b), (zz1 a), zz4])], [((List.length L), (2, true))]⟩ [] 25)) := by kernel_rfl
theorem ev_qp (b L : Bs) (ok : Bool) (Q : TV → VT → Prop) : vcallF Tryz.prog noGl (specs [(rRdF, rreadW)]) noOra 300 (ppL rsO b L ok (codeAt Tryz.prog qPaF 0)) 0 qPaF [.vec 1 b .none] zz211 Q =
 ((IsB (b) ∧
 SmB (b)) ∧
 ((codeAt Tryz.prog qPaF (0 : Nat) = codeAt Tryz.prog qPaF (0 : Nat)) ∧
 (((@Eq (Option Nat) .none .none) ∧
 ((@Eq (Nat) 0 0) ∧
 ((@Eq (List Nat) [] []) ∧
 (((@Eq (Option TV) (.some zz18) (.some zz18)) ∧
 True ) ∧
 ((@Eq (VT) ⟨[(.cells [(zz2 b), zz4, zz4])], [(0, (2, true))]⟩ ⟨[(.cells [(zz2 b), zz4, zz4])], [(0, (2, true))]⟩) ∧
 ((@Eq (Bool) true true) ∧
 (@Eq (List TV) zz194 zz194))))))) ∧
 (∀ bz : Bs, (∀ Lz : Bs, (∀ az : Int, (∀ ez : Int, (∀ cz : Int, (∀ dz : Int, (bif ok
 then Q (.tup [(zz168 L (List.length L)), zz133]) ⟨[(.cells [(zz2 bz), (zz1 az), (zz1 ez)])], [((List.length L), (2, true))]⟩
 else Q zz193 ⟨[(.cells [(zz2 bz), (zz1 az), (zz1 ez)]), (zz203 cz dz)], [((List.length Lz), (2, true))]⟩)))))))))) := by kernel_rfl
abbrev zzy13 (B : Bs) (n : Int) : VO := (zz203 (prAd (remB B n) (0 : Int)) (prLn (remB B n) (0 : Int)))
abbrev zzy14 (B : Bs) (n : Int) : TV := (zz1 (prE (remB B n) (0 : Int)))
theorem ev_qpA (B L : Bs) (n : Int) (Q : Exit → List TV → VT → List Nat → Nat → Prop) : vx Tryz.prog noGl (specs [(rLeF, rlW), (qRdF, qrW)]) (tellS [(999999, .dead, none), (23, .vec 2 (L ++ [pxE (prAd (remB B n) 0, prLn (remB B n) 0)]) (.tail 0 (L.length + 1)), some fun T => { T with tails := [(L.length + 1, 2, true)] })]) 300 noLp none 0 (loopAt Tryz.prog qPaF 0) (slotsN 25 ppK (ppV L)) ⟨[rsO B n 0], [(L.length, 2, true)]⟩ [] (pickS ppK Q) =
 (((@Eq (Bool) true true) ∧
 (IsB (B) ∧
 InB (B) (n))) ∧
 (bif decide (leB (remB B n) (0 : Int) > (0 : Int))
 then (((@Eq (Bool) true true) ∧
 (IsB (B) ∧
 InB (B) (n))) ∧
 (bif !prOk (remB B n) (0 : Int)
 then Q .ret (zz192 L (List.length L)) ⟨[(.cells [(zz2 B), (zz1 (rpN B n (0 : Int))), (zzy14 B n)]), (zzy13 B n)], [((List.length L), (2, true))]⟩ [] 25
 else (OTurn Tryz.prog (fun _ => .none) 0 ⟨[(.cells [(zz2 B), (zz1 (rpN B n (0 : Int))), (zzy14 B n)]), (zzy13 B n)], [((List.length L), (2, true))]⟩ (.call ⟨(.builtin .append), #[(.tmp 20), (.tmp 22)], #[58, 58]⟩) [(20, (zz168 L (List.length L))), (22, (.vec 2 [[(.val (.int .u32 (prAd (remB B n) (0 : Int)))), (.val (.int .i64 (prLn (remB B n) (0 : Int))))]] .full))] (zz168 (L ++ [pxE (prAd (remB B n) (0 : Int), prLn (remB B n) (0 : Int))]) (List.length L + (1 : Nat))) ⟨[(.cells [(zz2 B), (zz1 (rpN B n (0 : Int))), (zzy14 B n)]), (zzy13 B n)], [((List.length L + (1 : Nat)), (2, true))]⟩ ∧
 Q .normal (zz192 (L ++ [pxE (prAd (remB B n) (0 : Int), prLn (remB B n) (0 : Int))]) (List.length L + (1 : Nat))) ⟨[(.cells [(zz2 B), (zz1 (rpN B n (0 : Int))), (zzy14 B n)]), (zzy13 B n)], [((List.length L + (1 : Nat)), (2, true))]⟩ [] 25)))
 else Q (.exit 0) (zz192 L (List.length L)) ⟨[(.cells [(zz2 B), (zz1 n), zz4])], [((List.length L), (2, true))]⟩ [] 25)) := by kernel_rfl
end Go.Proofs.YtogbdjlelkepcaaGreatDoor
