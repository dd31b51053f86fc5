/- A type's shape: equality and keys of its values. For any program. -/
import Derived.Test.YtapfboldkkodkaaGreatDoorValS
namespace Go.Proofs.YtapfboldkkodkaaGreatDoor
open Go.RowKit

/-! ### A type's shape -/
section
variable (P : Program)
def shapeFs (sh : TypeId → Option KS) : Nat → List Field → Option (List CK)
  | _, [] => some []
  | i, f :: fs => match sh f.type, P.info? f.type with
    | some s, some inf => bif decide (f.offset = i) && decide (f.name ≠ "_") && decide (inf.size = s.ks.length) then (shapeFs sh (i + s.ks.length) fs).map (s.ks ++ ·) else none
    | _, _ => none
def rep : Nat → List CK → List CK
  | 0, _ => []
  | n + 1, ks => ks ++ rep n ks
def shapeAt : Nat → TypeId → Option KS
  | 0, _ => none
  | n + 1, t => match P.underlying t with
    | some (.int k) => some ⟨false, [.int k]⟩
    | some .bool => some ⟨false, [.bool]⟩
    | some .string => some ⟨false, [.str]⟩
    | some (.struct fs) => bif P.stoodInHeld t || P.eqGuardType P.depth t then none else (shapeFs P (shapeAt n) 0 fs.toList).map (⟨true, ·⟩)
    | some (.array len e) => match shapeAt n e, P.info? e with
      | some s, some inf => bif decide (inf.size = s.ks.length) && !(P.eqGuardType P.depth t) then some ⟨true, rep len s.ks⟩ else none
      | _, _ => none
    | _ => none
end

section
variable {P : Program} {w : World}
theorem agg_of_cells {s : KS} {v : Value} {cs : List Value} (h : s.agg = true) (hc : s.cells v = some cs) : v = .agg cs.toArray := by
  unfold KS.cells at hc
  rw [h] at hc
  cases v <;> simp at hc
  subst hc; simp
/-- what a shape says of its type -/
structure ShapeOk (P : Program) (d : Nat) (t : TypeId) (s : KS) : Prop where
  one : s.agg = false → ∃ c, s.ks = [c]
  isA : ∃ ds, P.underlying t = some ds ∧ isAggD ds = s.agg
  eq : ∀ (m : Nat) (w : World) a b, s.fits a = true → s.fits b = true → (Op.equalIn (d + m) t a b).run P w = .ok (keyEq a b) w
  chk : ∀ (m : Nat) (em : Bool) (w : World) a, s.fits a = true → (Instr.checkKey em (d + m) t a).run P w = .ok () w
  guard : s.agg = true → P.eqGuardType P.depth t = false
theorem fits_cells {s : KS} {v : Value} (h : s.fits v = true) : ∃ cs, s.cells v = some cs ∧ fitAll s.ks cs = true := by
  unfold KS.fits at h
  split at h
  · exact ⟨_, by assumption, h⟩
  · cases h
theorem mk_fits {s : KS} {v : Value} {cs : List Value} (h : s.cells v = some cs) (hf : fitAll s.ks cs = true) : s.fits v = true := by
  unfold KS.fits; rw [h]; exact hf
/-- a part of a row of cells that fits -/
theorem part_fits {d : Nat} {t : TypeId} {s : KS} {inf : TypeInfo} (ok : ShapeOk P d t s) (hi : P.info? t = some inf) (hz : inf.size = s.ks.length) {xs : List Value} {off : Nat}
    (hf : fitAll s.ks ((xs.drop off).take s.ks.length) = true) : ∃ v, (∀ w : World, (part t xs.toArray off).run P w = .ok v w) ∧ s.cells v = some ((xs.drop off).take s.ks.length) := by
  obtain ⟨ds, hu, hag⟩ := ok.isA
  cases ha : s.agg with
  | true =>
    refine ⟨.agg ((xs.drop off).take s.ks.length).toArray, fun w => ?_, by simp [KS.cells, ha]⟩
    have hisA : (isAgg t).run P w = .ok true w := by rw [run_isAgg hu, hag, ha]
    have hsz : (sizeOf t).run P w = .ok inf.size w := run_size hi w
    simp only [part, Sem.run_bind, hisA, Result.andThen_ok, if_true, hsz, Sem.run_pure]
    rw [hz]
    congr 2
    simp only [List.extract_toArray]
    rw [List.extract_eq_take_drop]
    congr 2
    omega
  | false =>
    obtain ⟨c, hc⟩ := ok.one ha
    rw [hc] at hf ⊢
    have hl := fitAll_len hf
    simp only [List.length_cons, List.length_nil] at hl
    cases hd : xs[off]? with
    | none =>
      have := List.getElem?_eq_none_iff.1 hd
      simp at hl; omega
    | some v =>
      have e1 : (xs.drop off).take 1 = [v] := by
        have hlt := (List.getElem?_eq_some_iff.1 hd)
        obtain ⟨hlt, hv⟩ := hlt
        rw [List.drop_eq_getElem_cons hlt, List.take_succ_cons, List.take_zero, hv]
      refine ⟨v, fun w => ?_, ?_⟩
      · have hisA : (isAgg t).run P w = .ok false w := by rw [run_isAgg hu, hag, ha]
        simp [part, hisA, hd]
      · simp only [List.length_cons, List.length_nil, Nat.zero_add] at hf ⊢
        rw [e1] at hf ⊢
        simp only [fitAll, Bool.and_true] at hf
        cases v <;> simp [KS.cells, ha] <;> cases c <;> simp [CK.fit] at hf
/-- equality of two rows of cells, part by part -/
theorem eqFs_ok {d : Nat} {sh : TypeId → Option KS} (hsh : ∀ t s, sh t = some s → ShapeOk P d t s) (m : Nat) {xs ys : List Value} : ∀ (fs : List Field) (i : Nat) (ks : List CK), shapeFs P sh i fs = some ks → fitAll ks (xs.drop i) = true → fitAll ks (ys.drop i) = true →
    ∀ w : World, (Op.eqFields (d + m) xs.toArray ys.toArray fs).run P w = .ok (eqAll (xs.drop i) (ys.drop i)) w
  | [], i, ks, h, hx, hy, w => by
    simp only [shapeFs, Option.some.injEq] at h
    subst h
    have h1 := fitAll_len hx
    have h2 := fitAll_len hy
    simp only [List.length_nil, List.length_eq_zero_iff] at h1 h2
    rw [h1, h2]
    simp [Op.eqFields, eqAll]
  | f :: fs, i, ks, h, hx, hy, w => by
    simp only [shapeFs] at h
    split at h
    · rename_i s inf hs hi
      cases hb : (decide (f.offset = i) && decide (f.name ≠ "_") && decide (inf.size = s.ks.length)) with
      | false => rw [hb] at h; cases h
      | true =>
        rw [hb] at h
        simp only [Bool.and_eq_true, decide_eq_true_eq] at hb
        obtain ⟨⟨ho, hn⟩, hz⟩ := hb
        simp only [cond_true, Option.map_eq_some_iff] at h
        obtain ⟨ks', h, rfl⟩ := h
        have ok := hsh _ _ hs
        have fx := fitAll_app hx
        have fy := fitAll_app hy
        obtain ⟨a, pa, ca⟩ := part_fits ok hi hz fx.1
        obtain ⟨b, pb, cb⟩ := part_fits ok hi hz fy.1
        have e1 := ok.eq m w a b (mk_fits ca fx.1) (mk_fits cb fy.1)
        rw [keyEq_cells ca cb] at e1
        have ih := eqFs_ok hsh m fs (i + s.ks.length) ks' h (by rw [← List.drop_drop]; exact fx.2) (by rw [← List.drop_drop]; exact fy.2) w
        have hl := (fitAll_len hx).trans (fitAll_len hy).symm
        have hl2 := fitAll_len hx
        simp only [List.length_append] at hl2
        rw [eqAll_split s.ks.length (by omega) hl]
        simp only [Op.eqFields, hn, ne_eq, not_false_eq_true, if_true, Sem.run_bind, pa, pb, ho, e1, Result.andThen_ok]
        cases hq : eqAll ((xs.drop i).take s.ks.length) ((ys.drop i).take s.ks.length) with
        | false => simp
        | true =>
          simp only [Bool.not_true, Bool.false_eq_true, if_false, cond_true]
          rw [List.drop_drop, List.drop_drop]
          exact ih
    · cases h
theorem rep_len (n : Nat) (ks : List CK) : (rep n ks).length = n * ks.length := by
  induction n with
  | zero => simp [rep]
  | succ n ih => simp only [rep, List.length_append, ih, Nat.succ_mul]; omega
/-- the parts of an array -/
theorem rep_parts {ks : List CK} : ∀ (n : Nat) (xs : List Value), fitAll (rep n ks) xs = true → ∀ j, j < n → fitAll ks ((xs.drop (j * ks.length)).take ks.length) = true
  | 0, _, _, j, hj => by omega
  | n + 1, xs, h, j, hj => by
    simp only [rep] at h
    have := fitAll_app h
    cases j with
    | zero => simpa using this.1
    | succ j =>
      have := rep_parts n _ this.2 j (by omega)
      rw [List.drop_drop] at this
      rw [Nat.succ_mul, Nat.add_comm]; exact this
theorem eqIs_ok {d : Nat} {t : TypeId} {s : KS} {inf : TypeInfo} (ok : ShapeOk P d t s) (hi : P.info? t = some inf) (hz : inf.size = s.ks.length) (m : Nat) {xs ys : List Value} : ∀ (n j : Nat), fitAll (rep n s.ks) (xs.drop (j * s.ks.length)) = true → fitAll (rep n s.ks) (ys.drop (j * s.ks.length)) = true →
    ∀ w : World, (Op.eqItems (d + m) t (P.cellsOf t) xs.toArray ys.toArray (List.range' j n)).run P w = .ok (eqAll (xs.drop (j * s.ks.length)) (ys.drop (j * s.ks.length))) w
  | 0, j, hx, hy, w => by
    have h1 := fitAll_len hx
    have h2 := fitAll_len hy
    simp only [rep, List.length_nil, List.length_eq_zero_iff] at h1 h2
    rw [h1, h2]
    simp [Op.eqItems, eqAll]
  | n + 1, j, hx, hy, w => by
    have hce : P.cellsOf t = s.ks.length := by simp [Program.cellsOf, hi, hz]
    simp only [rep] at hx hy
    have fx := fitAll_app hx
    have fy := fitAll_app hy
    obtain ⟨a, pa, ca⟩ := part_fits ok hi hz fx.1
    obtain ⟨b, pb, cb⟩ := part_fits ok hi hz fy.1
    have e1 := ok.eq m w a b (mk_fits ca fx.1) (mk_fits cb fy.1)
    rw [keyEq_cells ca cb] at e1
    have e2 : (j + 1) * s.ks.length = j * s.ks.length + s.ks.length := Nat.succ_mul _ _
    have ih := eqIs_ok ok hi hz m n (j + 1) (by rw [e2, ← List.drop_drop]; exact fx.2) (by rw [e2, ← List.drop_drop]; exact fy.2) w
    have hl := (fitAll_len hx).trans (fitAll_len hy).symm
    have hl2 := fitAll_len hx
    simp only [List.length_append] at hl2
    rw [eqAll_split s.ks.length (by omega) hl]
    simp only [List.range'_succ, Op.eqItems, hce, Sem.run_bind, pa, pb, e1, Result.andThen_ok]
    cases hq : eqAll ((xs.drop (j * s.ks.length)).take s.ks.length) ((ys.drop (j * s.ks.length)).take s.ks.length) with
    | false => simp
    | true =>
      simp only [Bool.not_true, Bool.false_eq_true, if_false, cond_true]
      rw [List.drop_drop, List.drop_drop, ← e2]
      rw [hce] at ih
      exact ih
theorem shapeAt_ok : ∀ (n : Nat) (t : TypeId) (s : KS), shapeAt P n t = some s → ShapeOk P n t s
  | 0, _, _, h => by simp [shapeAt] at h
  | n + 1, t, s, h => by
    have IH := shapeAt_ok n
    unfold shapeAt at h
    split at h
    · rename_i k hu
      injection h with h; subst h
      refine ⟨fun _ => ⟨_, rfl⟩, ⟨_, hu, rfl⟩, fun m w a b ha hb => ?_, fun m em w a ha => ?_, fun h => by cases h⟩
      · rw [Nat.add_right_comm]
        cases a <;> simp [KS.fits, KS.cells, fitAll, CK.fit] at ha
        cases b <;> simp [KS.fits, KS.cells, fitAll, CK.fit] at hb
        subst ha hb
        simp [Op.equalIn, run_underlying hu, keyEq, cellEq]
      · rw [Nat.add_right_comm]
        cases a <;> simp [KS.fits, KS.cells, fitAll, CK.fit] at ha
        simp [Instr.checkKey, run_underlying hu]
    · rename_i hu
      injection h with h; subst h
      refine ⟨fun _ => ⟨_, rfl⟩, ⟨_, hu, rfl⟩, fun m w a b ha hb => ?_, fun m em w a ha => ?_, fun h => by cases h⟩
      · rw [Nat.add_right_comm]
        cases a <;> simp [KS.fits, KS.cells, fitAll, CK.fit] at ha
        cases b <;> simp [KS.fits, KS.cells, fitAll, CK.fit] at hb
        simp [Op.equalIn, run_underlying hu, keyEq, cellEq]
      · rw [Nat.add_right_comm]
        cases a <;> simp [KS.fits, KS.cells, fitAll, CK.fit] at ha
        simp [Instr.checkKey, run_underlying hu]
    · rename_i hu
      injection h with h; subst h
      refine ⟨fun _ => ⟨_, rfl⟩, ⟨_, hu, rfl⟩, fun m w a b ha hb => ?_, fun m em w a ha => ?_, fun h => by cases h⟩
      · rw [Nat.add_right_comm]
        cases a <;> simp [KS.fits, KS.cells, fitAll, CK.fit] at ha
        cases b <;> simp [KS.fits, KS.cells, fitAll, CK.fit] at hb
        simp [Op.equalIn, run_underlying hu, keyEq, cellEq]
      · rw [Nat.add_right_comm]
        cases a <;> simp [KS.fits, KS.cells, fitAll, CK.fit] at ha
        simp [Instr.checkKey, run_underlying hu]
    · rename_i fs hu
      cases hb : (P.stoodInHeld t || P.eqGuardType P.depth t) with
      | true => rw [hb] at h; cases h
      | false =>
        rw [hb] at h
        simp only [Bool.or_eq_false_iff] at hb
        simp only [cond_false, Option.map_eq_some_iff] at h
        obtain ⟨ks, hk, rfl⟩ := h
        have hfs : P.fieldsOf t = fs := by simp [Program.fieldsOf, hu]
        refine ⟨fun h => (by cases h), ⟨_, hu, rfl⟩, fun m w a b ha hb2 => ?_, fun m em w a ha => ?_, fun _ => hb.2⟩
        · obtain ⟨xs, cx, fx⟩ := fits_cells ha
          obtain ⟨ys, cy, fy⟩ := fits_cells hb2
          rw [keyEq_cells cx cy, agg_of_cells rfl cx, agg_of_cells rfl cy, Nat.add_right_comm]
          rw [run_equalIn_struct w (n + m) t xs.toArray ys.toArray (by rw [hfs]; exact hu) hb.1, hfs]
          simpa using eqFs_ok IH m fs.toList 0 ks hk (by simpa using fx) (by simpa using fy) w
        · obtain ⟨xs, cx, fx⟩ := fits_cells ha
          rw [agg_of_cells rfl cx, Nat.add_right_comm, Instr.checkKey]
          simp only [Sem.run_bind, run_underlying hu, Result.andThen_ok]
          rw [← Array.forIn_toList]
          have fx' : fitAll ks (xs.drop 0) = true := by simpa using fx
          clear fx ha cx hu hfs
          generalize (0 : Nat) = i at hk fx'
          revert i ks
          generalize fs.toList = fl
          clear fs
          induction fl with
          | nil => intro ks i _ _; simp
          | cons f fs ih =>
            intro ks i hk fx'
            simp only [shapeFs] at hk
            split at hk
            · rename_i s inf hs hi
              cases hb3 : (decide (f.offset = i) && decide (f.name ≠ "_") && decide (inf.size = s.ks.length)) with
              | false => rw [hb3] at hk; cases hk
              | true =>
                rw [hb3] at hk
                simp only [Bool.and_eq_true, decide_eq_true_eq] at hb3
                obtain ⟨⟨ho, hn⟩, hz⟩ := hb3
                simp only [cond_true, Option.map_eq_some_iff] at hk
                obtain ⟨ks', hk, rfl⟩ := hk
                have ok := IH _ _ hs
                have f2 := fitAll_app fx'
                obtain ⟨a, pa, ca⟩ := part_fits ok hi hz f2.1
                have hc := ok.chk m em w a (mk_fits ca f2.1)
                simp only [List.forIn_cons, Sem.run_bind, hn, ne_eq, not_false_eq_true, if_true, ho, pa, hc, Result.andThen_ok, Sem.run_pure]
                exact ih ks' (i + s.ks.length) hk (by rw [← List.drop_drop]; exact f2.2)
            · cases hk
    · rename_i len e hu
      split at h
      · rename_i se inf hs hi
        cases hb : (decide (inf.size = se.ks.length) && !(P.eqGuardType P.depth t)) with
        | false => rw [hb] at h; cases h
        | true =>
          rw [hb] at h
          simp only [Bool.and_eq_true, decide_eq_true_eq, Bool.not_eq_true'] at hb
          simp only [cond_true, Option.some.injEq] at h
          subst h
          have ok := IH _ _ hs
          refine ⟨fun h => (by cases h), ⟨_, hu, rfl⟩, fun m w a b ha hb2 => ?_, fun m em w a ha => ?_, fun _ => hb.2⟩
          · obtain ⟨xs, cx, fx⟩ := fits_cells ha
            obtain ⟨ys, cy, fy⟩ := fits_cells hb2
            rw [keyEq_cells cx cy, agg_of_cells rfl cx, agg_of_cells rfl cy, Nat.add_right_comm]
            rw [run_equalIn_array w (n + m) xs.toArray ys.toArray hu hi, List.range_eq_range']
            have := eqIs_ok ok hi hb.1 m len 0 (xs := xs) (ys := ys) (by simpa using fx) (by simpa using fy) w
            simpa using this
          · obtain ⟨xs, cx, fx⟩ := fits_cells ha
            rw [agg_of_cells rfl cx, Nat.add_right_comm, Instr.checkKey]
            simp only [Sem.run_bind, run_underlying hu, Result.andThen_ok]
            simp only [Std.Legacy.Range.forIn_eq_forIn_range', Std.Legacy.Range.size, Nat.sub_zero, Nat.add_one_sub_one, Nat.div_one]
            have each : ∀ j ∈ List.range' 0 len, fitAll se.ks ((xs.drop (j * se.ks.length)).take se.ks.length) = true := by
              intro j hj
              simp only [List.mem_range'_1] at hj
              exact rep_parts len xs fx j (by omega)
            generalize List.range' 0 len = is at each
            induction is with
            | nil => simp
            | cons j is ih =>
              have f1 := each j (by simp)
              obtain ⟨a, pa, ca⟩ := part_fits ok hi hb.1 f1
              have hc := ok.chk m em w a (mk_fits ca f1)
              simp only [List.forIn_cons, Sem.run_bind, run_size hi, hb.1, Result.andThen_ok, pa, hc, Sem.run_pure]
              exact ih (fun y hy => each y (by simp [hy]))
      · cases h
    · cases h
def shapeOf (P : Program) (t : TypeId) : Option KS := shapeAt P 6 t
theorem shape_equal {t : TypeId} {s : KS} (h : shapeOf P t = some s) {a b : Value} (ha : s.fits a = true) (hb : s.fits b = true) (w : World) : (Op.equal t a b).run P w = .ok (keyEq a b) w :=
  (shapeAt_ok 6 t s h).eq 9994 w a b ha hb
theorem shape_check {t : TypeId} {s : KS} (h : shapeOf P t = some s) {a : Value} (ha : s.fits a = true) (em : Bool) (w : World) : (Instr.checkKey em 10000 t a).run P w = .ok () w :=
  (shapeAt_ok 6 t s h).chk 9994 em w a ha
end
end Go.Proofs.YtapfboldkkodkaaGreatDoor
