/- Rows of prefixes: sorted, each once, is what the reference's insertion makes. Plain. -/
import Derived.Test.YtjkagifpnieehaaPRCmp
import Derived.Test.YtjkagifpnieehaaMr4
import Derived.Shelf.SlSortCmp.NoneTotal
namespace Go.Proofs.Ytjkagifpnieehaa
open Go.RowKit Go.Sort Go.Shelf

abbrev Px := Int × Int
def pxLt (x y : Px) : Prop := x.1 < y.1 ∨ (x.1 = y.1 ∧ x.2 < y.2)
instance (x y : Px) : Decidable (pxLt x y) := by unfold pxLt; infer_instance
theorem pxLt_irrefl (x : Px) : ¬ pxLt x x := by unfold pxLt; omega
theorem pxLt_trans {x y z : Px} (h : pxLt x y) (k : pxLt y z) : pxLt x z := by unfold pxLt at *; omega
theorem pxLt_total {x y : Px} (h : ¬ pxLt x y) (k : ¬ pxLt y x) : x = y := by
  obtain ⟨a, b⟩ := x; obtain ⟨c, d⟩ := y
  unfold pxLt at *
  simp only at *
  have : a = c ∧ b = d := by omega
  rw [this.1, this.2]
theorem sorted_ext : ∀ {l m : List Px}, l.Pairwise pxLt → m.Pairwise pxLt → (∀ x, x ∈ l ↔ x ∈ m) → l = m
  | [], [], _, _, _ => rfl
  | [], b :: m, _, _, h => by have := (h b).2 (by simp); simp at this
  | a :: l, [], _, _, h => by have := (h a).1 (by simp); simp at this
  | a :: l, b :: m, hl, hm, h => by
    obtain ⟨hl1, hl2⟩ := List.pairwise_cons.1 hl
    obtain ⟨hm1, hm2⟩ := List.pairwise_cons.1 hm
    have e : a = b := by
      rcases List.mem_cons.1 ((h a).1 (by simp)) with h1 | h1
      · exact h1
      · rcases List.mem_cons.1 ((h b).2 (by simp)) with h2 | h2
        · exact h2.symm
        · exact absurd (pxLt_trans (hm1 a h1) (hl1 b h2)) (pxLt_irrefl b)
    subst e
    congr 1
    refine sorted_ext hl2 hm2 fun x => ⟨fun hx => ?_, fun hx => ?_⟩
    · rcases List.mem_cons.1 ((h x).1 (List.mem_cons_of_mem _ hx)) with rfl | h1
      · exact absurd (hl1 x hx) (pxLt_irrefl x)
      · exact h1
    · rcases List.mem_cons.1 ((h x).2 (List.mem_cons_of_mem _ hx)) with rfl | h1
      · exact absurd (hm1 x hx) (pxLt_irrefl x)
      · exact h1
/-- of what follows p: what differs from what stands ahead of it -/
def compF : Px → List Px → List Px
  | _, [] => []
  | p, a :: l => if a = p then compF p l else a :: compF a l
def compL : List Px → List Px
  | [] => []
  | a :: l => a :: compF a l
theorem mem_compF : ∀ {p : Px} {l : List Px} {x : Px}, (x = p ∨ x ∈ compF p l) ↔ (x = p ∨ x ∈ l)
  | p, [], x => by simp [compF]
  | p, a :: l, x => by
    simp only [compF]
    split
    · rename_i e; subst e
      rw [mem_compF]; simp
    · have ih := @mem_compF a l x
      simp only [List.mem_cons]
      constructor
      · rintro (h | h)
        · exact .inl h
        · exact .inr (ih.1 h)
      · rintro (h | h)
        · exact .inl h
        · exact .inr (ih.2 h)
theorem mem_compL {l : List Px} {x : Px} : x ∈ compL l ↔ x ∈ l := by
  cases l with
  | nil => rfl
  | cons a l => simp only [compL, List.mem_cons]; exact mem_compF
theorem compF_sorted : ∀ {p : Px} {l : List Px}, (p :: l).Pairwise (fun x y => ¬ pxLt y x) → (p :: compF p l).Pairwise pxLt
  | p, [], _ => by simp [compF]
  | p, a :: l, h => by
    obtain ⟨h1, h2⟩ := List.pairwise_cons.1 h
    simp only [compF]
    split
    · rename_i e; subst e
      exact compF_sorted h2
    · rename_i e
      have ih := compF_sorted h2
      refine List.pairwise_cons.2 ⟨fun x hx => ?_, ih⟩
      have hpa : pxLt p a := Classical.byContradiction fun k => e (pxLt_total (h1 a (by simp)) k)
      rcases List.mem_cons.1 hx with rfl | hx
      · exact hpa
      · exact pxLt_trans hpa ((List.pairwise_cons.1 ih).1 x hx)
theorem compL_sorted {l : List Px} (h : l.Pairwise (fun x y => ¬ pxLt y x)) : (compL l).Pairwise pxLt := by
  cases l with
  | nil => simp [compL]
  | cons a l => exact compF_sorted h
/-- where the reference puts p -/
def posP (p : Px) : List Px → Nat
  | [] => 0
  | a :: l => if pxLt a p then posP p l + 1 else 0
def insP (p : Px) (l : List Px) : List Px := if l[posP p l]? = some p then l else l.take (posP p l) ++ [p] ++ l.drop (posP p l)
theorem insP_cons (p a : Px) (l : List Px) (h : pxLt a p) : insP p (a :: l) = a :: insP p l := by
  simp only [insP, posP, if_pos h, List.getElem?_cons_succ, List.take_succ_cons, List.drop_succ_cons, List.cons_append]
  split <;> rfl
theorem insP_stop (p a : Px) (l : List Px) (h : ¬ pxLt a p) : insP p (a :: l) = if a = p then a :: l else p :: a :: l := by
  simp [insP, posP, if_neg h]
theorem mem_insP : ∀ {p : Px} {l : List Px} {x : Px}, x ∈ insP p l ↔ (x = p ∨ x ∈ l)
  | p, [], x => by simp [insP, posP]
  | p, a :: l, x => by
    by_cases h : pxLt a p
    · rw [insP_cons p a l h]
      simp only [List.mem_cons, mem_insP]
      constructor
      · rintro (h | h | h) <;> simp [h]
      · rintro (h | h | h) <;> simp [h]
    · rw [insP_stop p a l h]
      split
      · rename_i e; subst e; simp
      · simp
theorem insP_sorted : ∀ {p : Px} {l : List Px}, l.Pairwise pxLt → (insP p l).Pairwise pxLt
  | p, [], _ => by simp [insP, posP]
  | p, a :: l, hl => by
    obtain ⟨h1, h2⟩ := List.pairwise_cons.1 hl
    by_cases h : pxLt a p
    · rw [insP_cons p a l h]
      refine List.pairwise_cons.2 ⟨fun x hx => ?_, insP_sorted h2⟩
      rcases mem_insP.1 hx with rfl | hx
      · exact h
      · exact h1 x hx
    · rw [insP_stop p a l h]
      split
      · exact hl
      · rename_i e
        have hpa : pxLt p a := Classical.byContradiction fun k => e (pxLt_total h k)
        refine List.pairwise_cons.2 ⟨fun x hx => ?_, hl⟩
        rcases List.mem_cons.1 hx with rfl | hx
        · exact hpa
        · exact pxLt_trans hpa (h1 x hx)
def refS : List Px → List Px → List Px
  | out, [] => out
  | out, p :: l => refS (insP p out) l
theorem refS_sorted : ∀ (l out : List Px), out.Pairwise pxLt → (refS out l).Pairwise pxLt
  | [], _, h => h
  | p :: l, out, h => refS_sorted l _ (insP_sorted h)
theorem mem_refS : ∀ (l out : List Px) (x : Px), x ∈ refS out l ↔ (x ∈ out ∨ x ∈ l)
  | [], out, x => by simp [refS]
  | p :: l, out, x => by
    simp only [refS, mem_refS l, mem_insP, List.mem_cons]
    constructor
    · rintro ((h | h) | h) <;> simp [h]
    · rintro (h | h | h) <;> simp [h]
theorem refS_snoc (l : List Px) (p : Px) : ∀ out, refS out (l ++ [p]) = insP p (refS out l) := by
  induction l with
  | nil => intro out; rfl
  | cons a l ih => intro out; simp only [List.cons_append, refS, ih]
theorem pxZ_lt (x y : Px) : ltOf pxZ x y = true ↔ pxLt x y := by
  unfold ltOf pxZ pxLt
  simp only [orL, cmpZ]
  by_cases a1 : x.1 < y.1
  · simp [a1]
  · by_cases a2 : y.1 < x.1
    · simp [a1, a2]; omega
    · by_cases b1 : x.2 < y.2
      · simp [a1, a2, b1]; omega
      · by_cases b2 : y.2 < x.2
        · simp [a1, a2, b1, b2]; try omega
        · simp [a1, a2, b1, b2]
theorem pxZ_nlt (x y : Px) : ltOf pxZ x y = false ↔ ¬ pxLt x y := by rw [← pxZ_lt x y]; simp
theorem px_swo : SWO (ltOf pxZ) := by
  refine ⟨fun x => ?_, fun x y z h1 h2 => ?_, fun x y z h1 h2 => ?_⟩
  · rw [pxZ_nlt]; exact pxLt_irrefl x
  · rw [pxZ_lt] at *; exact pxLt_trans h1 h2
  · rw [pxZ_nlt] at *; unfold pxLt at *; omega
theorem px_total (x y : Px) (h1 : ltOf pxZ x y = false) (h2 : ltOf pxZ y x = false) : x = y := by
  rw [pxZ_nlt] at h1 h2; exact pxLt_total h1 h2
/-- prefixes in order -/
def sortP (l : List Px) : List Px := l.mergeSort fun x y => !(ltOf pxZ) y x
theorem sortP_len (l : List Px) : (sortP l).length = l.length := List.length_mergeSort l
theorem sortP_sorted (l : List Px) : (sortP l).Pairwise (fun x y => ¬ pxLt y x) := by
  have := List.pairwise_mergeSort (le := fun x y => !(ltOf pxZ) y x) (fun a b c h1 h2 => ?_) (fun a b => ?_) l
  · refine List.Pairwise.imp ?_ this
    intro a b h
    exact (pxZ_nlt b a).1 (by simpa using h)
  · simp only [Bool.not_eq_eq_eq_not, Bool.not_true] at *
    rw [pxZ_nlt] at *
    unfold pxLt at *; omega
  · cases h : ltOf pxZ b a with
    | false => simp
    | true =>
      have h1 := (pxZ_lt b a).1 h
      have : ltOf pxZ a b = false := (pxZ_nlt a b).2 fun k => pxLt_irrefl a (pxLt_trans k h1)
      simp [this]
/-- both sorts agree -/
theorem sort_law (l : List Px) : compL (sortP l) = refS [] l := by
  refine sorted_ext (compL_sorted (sortP_sorted l)) (refS_sorted l [] List.Pairwise.nil) fun x => ?_
  rw [mem_compL, mem_refS]
  have := (List.mergeSort_perm l fun x y => !(ltOf pxZ) y x).mem_iff (a := x)
  simp [sortP, this]
/-! ### Each once, in place -/
theorem compF_snoc : ∀ (p : Px) (l : List Px) (x : Px), compF p (l ++ [x]) = if (p :: l).getLast? = some x then compF p l else compF p l ++ [x]
  | p, [], x => by
    simp only [List.nil_append, compF, List.getLast?_singleton, Option.some.injEq]
    by_cases h : x = p
    · subst h; simp
    · rw [if_neg h, if_neg (fun e => h e.symm)]
  | p, a :: l, x => by
    have e : (p :: a :: l).getLast? = (a :: l).getLast? := by simp [List.getLast?_cons_cons]
    simp only [List.cons_append, compF, e]
    split
    · rename_i h; subst h
      exact compF_snoc a l x
    · rw [compF_snoc a l x]
      split <;> simp
theorem compL_snoc (l : List Px) (x : Px) (hl : l ≠ []) : compL (l ++ [x]) = if l.getLast? = some x then compL l else compL l ++ [x] := by
  cases l with
  | nil => exact absurd rfl hl
  | cons a l =>
    simp only [List.cons_append, compL, compF_snoc]
    split <;> simp
theorem compL_next {l : List Px} {j : Nat} {x y : Px} (hx : l[j]? = some x) (hj : 0 < j) (hy : l[j - 1]? = some y) : compL (l.take (j + 1)) = if y = x then compL (l.take j) else compL (l.take j) ++ [x] := by
  have hlt := (List.getElem?_eq_some_iff.1 hx).1
  have e : l.take (j + 1) = l.take j ++ [x] := by rw [List.take_add_one, hx]; rfl
  have hn : l.take j ≠ [] := by
    intro h
    have := congrArg List.length h
    rw [List.length_take, List.length_nil] at this
    omega
  have hlast : (l.take j).getLast? = some y := by
    have hj2 : (l.take j).length = j := by rw [List.length_take]; omega
    rw [List.getLast?_eq_getElem?, hj2, List.getElem?_take, if_pos (by omega)]
    exact hy
  rw [e, compL_snoc _ _ hn, hlast]
  simp
theorem compF_len : ∀ (p : Px) (l : List Px), (compF p l).length ≤ l.length
  | _, [] => Nat.le_refl _
  | p, a :: l => by
    simp only [compF]
    split
    · exact Nat.le_succ_of_le (compF_len p l)
    · simp; exact compF_len a l
theorem compL_len (l : List Px) : (compL l).length ≤ l.length := by
  cases l with
  | nil => exact Nat.le_refl _
  | cons a l => simp [compL]; exact compF_len a l
theorem compL_take1 {l : List Px} (h : 0 < l.length) : compL (l.take 1) = l.take 1 := by
  cases l with
  | nil => simp at h
  | cons a l => simp [compL, compF]
/-- what the inner loop knows: c is what the row holds; below k it is done; from j on it is as it was -/
structure CptB (l c : List Px) (k j : Nat) : Prop where
  len : c.length = l.length
  k0 : 0 < k
  kj : k < j
  jl : j ≤ l.length
  done : c.take k = compL (l.take j)
  left : c.drop (j - 1) = l.drop (j - 1)
theorem CptB.start {l : List Px} {j : Nat} {x : Px} (hj : 0 < j) (hx : l[j]? = some x) (hy : l[j - 1]? = some x) (h : compL (l.take j) = l.take j) : CptB l l j (j + 1) where
  len := rfl
  k0 := hj
  kj := Nat.lt_succ_self _
  jl := (List.getElem?_eq_some_iff.1 hx).1
  done := by rw [compL_next hx hj hy, if_pos rfl, h]
  left := rfl
theorem CptB.at {l c : List Px} {k j : Nat} (h : CptB l c k j) {i : Nat} (hi : j - 1 ≤ i) : c[i]? = l[i]? := by
  have e := h.left
  have h1 : (c.drop (j - 1))[i - (j - 1)]? = (l.drop (j - 1))[i - (j - 1)]? := by rw [e]
  simp only [List.getElem?_drop] at h1
  rwa [show j - 1 + (i - (j - 1)) = i by omega] at h1
theorem CptB.same {l c : List Px} {k j : Nat} (h : CptB l c k j) {x : Px} (hx : l[j]? = some x) (hy : l[j - 1]? = some x) : CptB l c k (j + 1) where
  len := h.len
  k0 := h.k0
  kj := by have := h.kj; omega
  jl := (List.getElem?_eq_some_iff.1 hx).1
  done := by rw [compL_next hx (by have := h.kj; omega) hy, if_pos rfl]; exact h.done
  left := by
    have e := h.left
    have hj := h.kj
    have h1 : (c.drop (j - 1)).drop 1 = (l.drop (j - 1)).drop 1 := by rw [e]
    simp only [List.drop_drop] at h1
    rwa [show j - 1 + 1 = j + 1 - 1 by omega] at h1
theorem CptB.next {l c : List Px} {k j : Nat} (h : CptB l c k j) {x y : Px} (hx : l[j]? = some x) (hy : l[j - 1]? = some y) (hne : y ≠ x) : CptB l (c.set k x) (k + 1) (j + 1) where
  len := by simp [h.len]
  k0 := Nat.succ_pos _
  kj := by have := h.kj; omega
  jl := (List.getElem?_eq_some_iff.1 hx).1
  done := by
    have hk : k < c.length := by rw [h.len]; have := h.kj; have := h.jl; omega
    rw [compL_next hx (by have := h.kj; omega) hy, if_neg hne, ← h.done]
    rw [List.take_add_one, List.getElem?_set_self hk, List.take_set_of_le (Nat.le_refl _)]; rfl
  left := by
    have hj := h.kj
    rw [List.drop_set_of_lt (by omega)]
    have h1 : (c.drop (j - 1)).drop 1 = (l.drop (j - 1)).drop 1 := by rw [h.left]
    simp only [List.drop_drop] at h1
    rwa [show j - 1 + 1 = j + 1 - 1 by omega] at h1
theorem CptB.stop {l c : List Px} {k : Nat} (h : CptB l c k l.length) : c.take k = compL l := by
  have := h.done
  rwa [List.take_length] at this
/-! ### Rows of prefixes -/
def pxC (x : Px) : List Value := [.int .u32 x.1, .int .i64 x.2]
def pxE (x : Px) : List TV := [.val (.int .u32 x.1), .val (.int .i64 x.2)]
theorem pxC_len (x : Px) : (pxC x).length = 2 := rfl
theorem pxC_one (x : Px) : ∀ v ∈ pxC x, v.oneCell' = true := by
  intro v hv
  simp [pxC] at hv
  rcases hv with rfl | rfl <;> rfl
theorem pxE_flat (l : List Px) : (l.map pxE).flatten = (l.flatMap pxC).map .val := by
  induction l with
  | nil => rfl
  | cons a l ih => rw [List.map_cons, List.flatten_cons, ih, List.flatMap_cons, List.map_append]; rfl
theorem ren_pxE (f h : Nat → Option Nat) (l : List Px) : renLL f h (l.map pxE) = l.map pxE := by
  induction l with
  | nil => rfl
  | cons a l ih => simp only [List.map_cons, renLL, ih]; rfl
theorem pxF_len (l : List Px) : (l.map pxE).flatten.length = l.length * 2 := by
  induction l with
  | nil => rfl
  | cons a l ih => rw [List.map_cons, List.flatten_cons, List.length_append, ih, List.length_cons]; simp [pxE]; omega
theorem pxF_at : ∀ {l : List Px} {k : Nat} {x : Px}, l[k]? = some x → (l.map pxE).flatten[k * 2]? = some (.val (.int .u32 x.1)) ∧ (l.map pxE).flatten[k * 2 + 1]? = some (.val (.int .i64 x.2))
  | [], k, x, h => by simp at h
  | a :: l, 0, x, h => by simp at h; subst h; simp [pxE]
  | a :: l, k + 1, x, h => by
    have ih := pxF_at (l := l) (k := k) (x := x) (by simpa using h)
    rw [show (k + 1) * 2 = k * 2 + 2 by omega]
    simp only [List.map_cons, List.flatten_cons, pxE, List.cons_append, List.nil_append, List.getElem?_cons_succ]
    exact ih
theorem pxF_set (x : Px) : ∀ {l : List Px} {k : Nat}, k < l.length → setCs (l.map pxE).flatten (k * 2) (pxE x) = ((l.set k x).map pxE).flatten
  | [], k, h => by simp at h
  | a :: l, 0, _ => by simp [setCs, pxE]
  | a :: l, k + 1, h => by
    have ih := pxF_set x (l := l) (k := k) (by simpa using h)
    simp only [List.set_cons_succ, List.map_cons, List.flatten_cons, ← ih]
    rw [show (k + 1) * 2 = k * 2 + 2 by omega]
    simp [setCs, pxE, show k * 2 + 2 + 2 = k * 2 + 2 + 1 + 1 from rfl]
theorem chunks_px : ∀ (l : List Px), chunks 2 l.length (l.map pxE).flatten = l.map pxE
  | [] => rfl
  | a :: l => by
    simp only [List.length_cons, chunks, List.map_cons, List.flatten_cons]
    have h := chunks_px l
    simp only [pxE] at *
    simp [h]
theorem row_take {cs : List TV} {d : List Px} {k : Nat} (hk : d.length = k) (h : cs.take (k * 2) = (d.map pxE).flatten) : rowsR ⟨[.row cs], []⟩ 2 (.row 2 0 0 k) = some (d.map pxE) := by
  subst hk
  have hle : d.length * 2 ≤ cs.length := by
    have := congrArg List.length h
    rw [pxF_len, List.length_take] at this
    omega
  have h1 : Nat.ble ((0 + d.length) * 2) cs.length = true := Nat.ble_eq_true_of_le (by omega)
  simp only [rowsR, List.getElem?_cons_zero, h1, Nat.beq_refl, Bool.and_self, cond_true, Nat.zero_mul, List.drop_zero, h, chunks_px]
theorem setCs_take {cs zs : List TV} {n : Nat} (h : n ≤ cs.length) : (setCs cs n zs).take n = cs.take n := by
  simp only [setCs]
  rw [List.append_assoc, List.take_append_of_le_length (by simp; omega), List.take_take]
  simp
/-! ### Where the reference's inner loop stops -/
theorem posP_eq {p : Px} : ∀ {l : List Px} {i : Nat}, i ≤ l.length → (∀ k x, k < i → l[k]? = some x → pxLt x p) → (∀ x, l[i]? = some x → ¬ pxLt x p) → posP p l = i
  | [], i, h, _, _ => by simp at h; subst h; rfl
  | a :: l, 0, _, _, hs => by simp only [posP]; rw [if_neg (hs a rfl)]
  | a :: l, i + 1, h, hb, hs => by
    simp only [posP]
    rw [if_pos (hb 0 a (Nat.succ_pos _) rfl), posP_eq (by simpa using h) (fun k x hk hx => hb (k + 1) x (by omega) (by simpa using hx)) (fun x hx => hs x (by simpa using hx))]
theorem posP_le (p : Px) : ∀ l : List Px, posP p l ≤ l.length
  | [] => Nat.le_refl _
  | a :: l => by
    simp only [posP]
    split
    · simp; exact posP_le p l
    · exact Nat.zero_le _
theorem pcmp_lt (b m a n : Int) : decide (pcmpZ b m a n < 0) = decide (pxLt (b, m) (a, n)) := by
  have h := pxZ_lt (b, m) (a, n)
  have e : ltOf pxZ (b, m) (a, n) = decide (pcmpZ b m a n < 0) := rfl
  rw [e] at h
  rw [Bool.eq_iff_iff, h]; simp
end Go.Proofs.Ytjkagifpnieehaa
