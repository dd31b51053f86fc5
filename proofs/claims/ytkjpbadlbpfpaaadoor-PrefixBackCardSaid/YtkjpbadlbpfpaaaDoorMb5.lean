/- Texts of this proof, part 5. -/
import Derived.Test.YtkjpbadlbpfpaaaDoorMb1
import Derived.Test.YtkjpbadlbpfpaaaDoorMb2
import Derived.Test.YtkjpbadlbpfpaaaDoorMb3
import Derived.Test.YtkjpbadlbpfpaaaDoorMb4
/- Arguments of whatever type of numbers, strings, structs and slices, nested as they come: what a walk knows of them. For any program. -/
namespace Go.Proofs.YtkjpbadlbpfpaaaDoor
open Go.ChangeShapes Go.WideShapes Go.ChangeAt Go.RowKit Go.Joins Go.Deep

/-- a cell's shape -/
inductive SH where
  | int (k : IntKind)
  | bool
  | str
  | slice (es : List SH)
mutual
def SH.Fits : SH → TV → Prop
  | .int k, x => ∃ z, x = .val (.int k z) ∧ (Lit.int k z).wf = true
  | .bool, x => ∃ b, x = .val (.bool b)
  | .str, x => ∃ s : ByteArray, x = .val (.string s) ∧ s.size ≤ maxLen
  | .slice es, x => ∃ l : List (List TV), x = .vec es.length l .none ∧ l.length ≤ maxLen ∧ ∀ e ∈ l, FitsL es e
def FitsL : List SH → List TV → Prop
  | [], [] => True
  | s :: ss, x :: xs => s.Fits x ∧ FitsL ss xs
  | _, _ => False
end
theorem fitsL_len : ∀ {ss : List SH} {xs : List TV}, FitsL ss xs → xs.length = ss.length
  | [], [], _ => rfl
  | [], _ :: _, h => by simp [FitsL] at h
  | _ :: _, [], h => by simp [FitsL] at h
  | s :: ss, x :: xs, h => by
    simp only [FitsL] at h
    simp [fitsL_len h.2]
mutual
theorem fits_ren : ∀ (s : SH) (x : TV), s.Fits x → ∀ f h, x.ren f h = x
  | .int k, x, hx, f, h => by
    simp only [SH.Fits] at hx
    obtain ⟨z, rfl, _⟩ := hx; rfl
  | .bool, x, hx, f, h => by
    simp only [SH.Fits] at hx
    obtain ⟨z, rfl⟩ := hx; rfl
  | .str, x, hx, f, h => by
    simp only [SH.Fits] at hx
    obtain ⟨z, rfl, _⟩ := hx; rfl
  | .slice es, x, hx, f, h => by
    simp only [SH.Fits] at hx
    obtain ⟨l, rfl, _, hl⟩ := hx
    have h1 : ∀ l : List (List TV), (∀ e ∈ l, FitsL es e) → renLL f h l = l := by
      intro l
      induction l with
      | nil => intro _; rfl
      | cons e r ih =>
        intro hl
        rw [renLL, fitsL_ren es e (hl e List.mem_cons_self) f h, ih fun e' he' => hl e' (List.mem_cons_of_mem _ he')]
    simp only [TV.ren, h1 l hl, Tok.ren]
theorem fitsL_ren : ∀ (ss : List SH) (xs : List TV), FitsL ss xs → ∀ f h, renL f h xs = xs
  | [], [], _, f, h => rfl
  | [], _ :: _, hx, _, _ => by simp [FitsL] at hx
  | _ :: _, [], hx, _, _ => by simp [FitsL] at hx
  | s :: ss, x :: xs, hx, f, h => by
    simp only [FitsL] at hx
    rw [renL, fits_ren s x hx.1 f h, fitsL_ren ss xs hx.2 f h]
end
theorem fitsLL_ren {ss : List SH} : ∀ {l : List (List TV)}, (∀ e ∈ l, FitsL ss e) → ∀ f h, renLL f h l = l
  | [], _, f, h => rfl
  | e :: r, hl, f, h => by rw [renLL, fitsL_ren ss e (hl e List.mem_cons_self) f h, fitsLL_ren (fun e' he' => hl e' (List.mem_cons_of_mem _ he')) f h]
theorem fitsL_cons {s : SH} {ss : List SH} {xs : List TV} (h : FitsL (s :: ss) xs) : ∃ x r, xs = x :: r ∧ s.Fits x ∧ FitsL ss r := by
  cases xs with
  | nil => simp [FitsL] at h
  | cons x r => simp only [FitsL] at h; exact ⟨x, r, rfl, h⟩
theorem fitsL_nil {xs : List TV} (h : FitsL [] xs) : xs = [] := by
  cases xs with
  | nil => rfl
  | cons x r => simp [FitsL] at h
theorem fits_int {k : IntKind} {x : TV} (h : SH.Fits (.int k) x) : ∃ z, x = .val (.int k z) ∧ (Lit.int k z).wf = true := by simpa [SH.Fits] using h
theorem fits_bool {x : TV} (h : SH.Fits .bool x) : ∃ b, x = .val (.bool b) := by simpa [SH.Fits] using h
theorem fits_str {x : TV} (h : SH.Fits .str x) : ∃ s : ByteArray, x = .val (.string s) ∧ s.size ≤ maxLen := by simpa [SH.Fits] using h
theorem fits_slice {es : List SH} {x : TV} (h : SH.Fits (.slice es) x) : ∃ l : List (List TV), x = .vec es.length l .none ∧ l.length ≤ maxLen ∧ ∀ e ∈ l, FitsL es e := by simpa [SH.Fits] using h
def shL (f : TypeId → Option SH) : List TypeId → Option (List SH)
  | [] => some []
  | t :: r => match f t, shL f r with
    | some s, some l => some (s :: l)
    | _, _ => none
theorem shL_len {f : TypeId → Option SH} : ∀ {ts : List TypeId} {ss : List SH}, shL f ts = some ss → ss.length = ts.length
  | [], ss, h => by simp [shL] at h; subst h; rfl
  | t :: r, ss, h => by
    simp only [shL] at h
    split at h
    · rename_i s l h1 h2
      injection h with h; subst h
      simp [shL_len h2]
    · cases h
def shT (P : Program) : Nat → TypeId → Option SH
  | 0, _ => none
  | n + 1, t => match P.underlying t with
    | some (.int k) => some (.int k)
    | some .bool => some .bool
    | some .string => some .str
    | some (.slice e) => match cellTs P n e with
      | some ts => bif Nat.beq (P.cellsOf e) ts.length && Nat.ble 1 ts.length then (shL (shT P n) ts).map .slice else none
      | none => none
    | _ => none
section
variable {P : Program} {H : Type} {enc : TypeId × Value → H} {w : World} {base : Nat} {held : Bool}
abbrev CellOk (enc : TypeId × Value → H) (P : Program) (w : World) (base : Nat) (held : Bool) (t : TypeId) (sh : SH) : Prop := ∀ u m y, DataW.trod enc P w base (fun _ => true) held m t [u] = some y → u.oneCell' = true ∧ ∃ x, VR (topG w) w x u ∧ sh.Fits x
theorem open_row {f : TypeId → Option SH} (hf : ∀ t sh, f t = some sh → CellOk enc P w base held t sh) : ∀ (ts : List TypeId) (ss : List SH) (cs : List Value), shL f ts = some ss → cs.length = ts.length →
    (∀ (j : Nat) t', ts[j]? = some t' → ∃ u m y, cs[j]? = some u ∧ DataW.trod enc P w base (fun _ => true) held m t' [u] = some y) → (∀ u ∈ cs, u.oneCell' = true) ∧ ∃ xs, VRs (topG w) w xs cs ∧ FitsL ss xs
  | [], ss, cs, h, hl, _ => by
    simp [shL] at h; subst h
    have := List.eq_nil_of_length_eq_zero hl
    subst this
    exact ⟨by simp, [], VRs.nil _ _, trivial⟩
  | t :: r, ss, [], h, hl, _ => by simp at hl
  | t :: r, ss, c :: cs, h, hl, hj => by
    simp only [shL] at h
    split at h
    · rename_i s l h1 h2
      injection h with h; subst h
      obtain ⟨u, m, y, k1, k2⟩ := hj 0 t rfl
      simp at k1; subst k1
      obtain ⟨a1, x, a2, a3⟩ := hf t s h1 _ m y k2
      obtain ⟨b1, xs, b2, b3⟩ := open_row hf r l cs h2 (by simpa using hl) fun j t' ht' => by
        obtain ⟨u, m, y, k1, k2⟩ := hj (j + 1) t' (by simpa using ht')
        exact ⟨u, m, y, by simpa using k1, k2⟩
      refine ⟨fun u hu => ?_, x :: xs, VRs.cons a2 b2, a3, b3⟩
      rcases List.mem_cons.1 hu with rfl | hu
      · exact a1
      · exact b1 u hu
    · cases h
theorem open_rowsS {e : TypeId} {n : Nat} {ts : List TypeId} {f : TypeId → Option SH} {ss : List SH} (hf : ∀ t sh, f t = some sh → CellOk enc P w base held t sh) (hts : cellTs P n e = some ts) (hss : shL f ts = some ss) :
    ∀ (rows : List (List Value)), (∀ x ∈ rows, x.length = ts.length ∧ ∃ m y, DataW.trod enc P w base (fun _ => true) held m e x = some y) →
      (∀ u ∈ rows.flatten, u.oneCell' = true) ∧ ∃ l : List (List TV), l.length = rows.length ∧ VRs (topG w) w l.flatten rows.flatten ∧ ∀ x ∈ l, FitsL ss x
  | [], _ => ⟨by simp, [], rfl, VRs.nil _ _, by simp⟩
  | r :: rows, h => by
    obtain ⟨h1, m, y, h2⟩ := h r List.mem_cons_self
    obtain ⟨a1, xs, a2, a3⟩ := open_row hf ts ss r hss h1 (cellTs_ok n m e ts r y hts h1 h2)
    obtain ⟨b1, l, b2, b3, b4⟩ := open_rowsS hf hts hss rows fun x hx => h x (List.mem_cons_of_mem _ hx)
    refine ⟨fun u hu => ?_, xs :: l, by simp [b2], by rw [List.flatten_cons, List.flatten_cons]; exact a2.app b3, fun x hx => ?_⟩
    · rw [List.flatten_cons] at hu
      rcases List.mem_append.1 hu with hu | hu
      · exact a1 u hu
      · exact b1 u hu
    · rcases List.mem_cons.1 hx with rfl | hx
      · exact a3
      · exact b4 x hx
theorem open_cell : ∀ (n : Nat) (t : TypeId) (sh : SH), shT P n t = some sh → CellOk enc P w base held t sh
  | 0, _, _, h => by simp [shT] at h
  | n + 1, t, sh, h => by
    intro u m y hy
    simp only [shT] at h
    split at h
    · rename_i k hk
      injection h with h; subst h
      obtain ⟨z, rfl, wz⟩ := leaf_int hk hy
      exact ⟨rfl, _, .val _, z, rfl, wz⟩
    · rename_i hk
      injection h with h; subst h
      obtain ⟨b, e, _⟩ := DataW.trod_bool hk hy
      injection e with e; subst e
      exact ⟨rfl, _, .val _, b, rfl⟩
    · rename_i hk
      injection h with h; subst h
      obtain ⟨s, e, _, hs⟩ := DataW.trod_string hk hy
      injection e with e; subst e
      exact ⟨rfl, _, .val _, s, rfl, hs⟩
    · rename_i e ht
      split at h
      · rename_i ts hts
        cases hb : (Nat.beq (P.cellsOf e) ts.length && Nat.ble 1 ts.length) with
        | false => rw [hb] at h; cases h
        | true =>
          rw [hb] at h
          simp only [Bool.and_eq_true] at hb
          have hk := Nat.eq_of_beq_eq_true hb.1
          have hpos := Nat.le_of_ble_eq_true hb.2
          simp only [cond_true, Option.map_eq_some_iff] at h
          obtain ⟨ss, hss, rfl⟩ := h
          have hsl := shL_len hss
          rcases open_slice ht hy with ⟨hcs, _⟩ | ⟨a, len, cap, m', n', D, Pl, hcs, hbb, hl, hm, hmm, hx, hall⟩
          · injection hcs with hcs; subst hcs
            exact ⟨rfl, .vec ss.length [] .none, .nil trivial, [], rfl, Nat.zero_le _, by simp⟩
          · injection hcs with hcs; subst hcs
            simp only [if_true] at hmm
            subst hmm
            rw [hk] at hall
            obtain ⟨b, o, sp⟩ := a
            rcases Nat.eq_zero_or_pos m' with hc0 | hc0
            · subst hc0
              have : len = 0 := by omega
              subst this
              exact ⟨rfl, .vec ss.length [] .none, .odd _ trivial, [], rfl, Nat.zero_le _, by simp⟩
            · have hsp : sp = none := by
                obtain ⟨cs', h1, _⟩ := hall 0 hc0
                obtain ⟨_, h3, h4⟩ := World.cells?_some h1
                have h5 := h4 0 hpos
                rw [List.getElem?_eq_getElem (by omega)] at h5
                cases sp with
                | none => rfl
                | some s => simp [World.cell?, Addr.add] at h5; split at h5 <;> cases h5
              subst hsp
              obtain ⟨V, hV⟩ := choose_lt (α := List Value) (p := fun i cs' => w.cells? base ((⟨b, o, none⟩ : Addr).add (i * ts.length)) ts.length = some cs' ∧ DataW.trod enc P w base (fun _ => true) held n' e cs' = some (D i, Pl i)) (fun i hi => hall i hi)
              have each : ∀ i, i < len → (V i).length = ts.length ∧ (∀ c, c < ts.length → w.cell? ⟨b, o + (i * ts.length + c), none⟩ = (V i)[c]?) ∧ ∃ y, DataW.trod enc P w base (fun _ => true) held n' e (V i) = some y := fun i hi => by
                obtain ⟨h1, h2⟩ := hV i (by omega)
                obtain ⟨_, h3, h4⟩ := World.cells?_some h1
                refine ⟨h3, fun c hc => ?_, _, h2⟩
                rw [← h4 c hc]
                congr 1
                simp [Addr.add_none, Nat.add_assoc]
              have at1 : ∀ (i : Nat) x, ((List.range len).map V)[i]? = some x → i < len ∧ x = V i := fun i x hx => by
                rw [List.getElem?_map] at hx
                rcases Nat.lt_or_ge i len with hi | hi
                · rw [List.getElem?_range hi] at hx
                  injection hx with hx
                  exact ⟨hi, hx.symm⟩
                · rw [List.getElem?_eq_none (by simpa using hi)] at hx; cases hx
              have hz : ∀ x ∈ (List.range len).map V, x.length = ts.length := fun x hx => by
                obtain ⟨i, hi, rfl⟩ := List.mem_map.1 hx
                exact (each i (List.mem_range.1 hi)).1
              obtain ⟨k1, l, k2, k3, k4⟩ := open_rowsS (fun t sh h => open_cell n t sh h) hts hss ((List.range len).map V) fun x hx => by
                obtain ⟨i, hi, rfl⟩ := List.mem_map.1 hx
                obtain ⟨e1, _, y, e3⟩ := each i (List.mem_range.1 hi)
                exact ⟨e1, n', y, e3⟩
              have hlen : l.length = len := by rw [k2]; simp
              refine ⟨rfl, .vec ss.length l .none, ?_, l, rfl, by omega, k4⟩
              refine .mk_vec hlen.symm hl hm (fun x hx => fitsL_len (k4 x hx)) trivial k3 (fun j hj => ?_) (fun j u hu => ?_) k1
              · rw [← k3.1] at hj
                obtain ⟨i, c, x, h1, h2, h3, h4⟩ := flat_get _ hz j _ (List.getElem?_eq_getElem hj)
                obtain ⟨hi, rfl⟩ := at1 i x h3
                show (w.cell? ⟨b, o + j, none⟩).isSome = true
                rw [h2, (each i hi).2.1 c h1, h4]; rfl
              · obtain ⟨i, c, x, h1, h2, h3, h4⟩ := flat_get _ hz j u hu
                obtain ⟨hi, rfl⟩ := at1 i x h3
                rw [h2, (each i hi).2.1 c h1, h4]
      · cases h
    · cases h
/-- a struct -/
theorem open_struct {n m : Nat} {t : TypeId} {ts : List TypeId} {ss : List SH} {fs : Array Field} {r : Reach} {b0 : Nat} {v : Value} {d : DataW H} {p : List MemPlace} (ht : P.underlying t = some (.struct fs)) (hts : cellTs P n t = some ts) (hlt : P.cellsOf t = ts.length) (hss : shL (shT P m) ts = some ss)
    (hv : Value.okWide P w r b0 t v) (h : DataW.Trod enc P w base (fun _ => true) held t v d p) : ∃ xs, VR (topG w) w (.agg xs) v ∧ FitsL ss xs := by
  obtain ⟨⟨cs⟩, rfl, hsz⟩ := okWide_struct ht hv
  obtain ⟨fuel, hf⟩ := h
  have hl : cs.length = ts.length := by rw [← hlt]; simpa using hsz
  obtain ⟨_, xs, h1, h2⟩ := open_row (fun t sh h => open_cell m t sh h) ts ss cs hss hl (cellTs_ok n fuel t ts cs _ hts hl hf)
  exact ⟨xs, .mk_agg h1, h2⟩
/-- a struct's cells' shapes -/
def shStruct (P : Program) (n : Nat) (t : TypeId) : Option (List SH) := match cellTs P n t with
  | some ts => bif Nat.beq (P.cellsOf t) ts.length then shL (shT P n) ts else none
  | none => none
theorem open_structS {n : Nat} {t : TypeId} {ss : List SH} {fs : Array Field} {r : Reach} {b0 : Nat} {v : Value} {d : DataW H} {p : List MemPlace} (hs : shStruct P n t = some ss) (ht : P.underlying t = some (.struct fs))
    (hv : Value.okWide P w r b0 t v) (h : DataW.Trod enc P w base (fun _ => true) held t v d p) : ∃ xs, VR (topG w) w (.agg xs) v ∧ FitsL ss xs := by
  unfold shStruct at hs
  split at hs
  · rename_i ts hts
    cases hb : Nat.beq (P.cellsOf t) ts.length with
    | false => rw [hb] at hs; cases hs
    | true =>
      rw [hb] at hs
      exact open_struct ht hts (Nat.eq_of_beq_eq_true hb) hs hv h
  · cases hs
/-- a value of one cell -/
theorem open_leafS {m : Nat} {t : TypeId} {sh : SH} {r : Reach} {b0 : Nat} {v : Value} {d : DataW H} {p : List MemPlace} (hs : shT P m t = some sh)
    (hv : Value.okWide P w r b0 t v) (h : DataW.Trod enc P w base (fun _ => true) held t v d p) : ∃ x, VR (topG w) w x v ∧ sh.Fits x := by
  have hc : v.cells.toList = [v] := by
    cases m with
    | zero => simp [shT] at hs
    | succ m =>
      simp only [shT] at hs
      unfold Value.okWide at hv
      split at hs
      · rename_i k hk
        rw [hk] at hv
        simp only [Cell.okWide, hk] at hv
        cases v <;> simp [Cell.ok, hk] at hv <;> rfl
      · rename_i hk
        rw [hk] at hv
        simp only [Cell.okWide, hk] at hv
        cases v <;> simp [Cell.ok, hk] at hv <;> rfl
      · rename_i hk
        rw [hk] at hv
        simp only [Cell.okWide, hk] at hv
        cases v <;> simp [Cell.ok, hk] at hv <;> rfl
      · rename_i e hk
        obtain ⟨qq, n, c, rfl⟩ := okWide_slice hk (by unfold Value.okWide; exact hv)
        rfl
      · cases hs
  obtain ⟨fuel, hf⟩ := h
  rw [hc] at hf
  exact (open_cell m t sh hs v fuel _ hf).2
end
end Go.Proofs.YtkjpbadlbpfpaaaDoor
