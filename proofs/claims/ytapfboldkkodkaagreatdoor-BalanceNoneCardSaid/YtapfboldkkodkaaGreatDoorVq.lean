/- Maps, on what a walk knows: look-ups, stores, deletions, new ones. For any program. -/
import Derived.Test.YtapfboldkkodkaaGreatDoorVp
namespace Go.Proofs.YtapfboldkkodkaaGreatDoor
open Go.RowKit

section
variable {P : Program} {g : Gh} {T : VT} {w : World}
def ckEq : CK → CK → Bool
  | .int a, .int b => decide (a = b)
  | .bool, .bool => true
  | .str, .str => true
  | _, _ => false
def ckEqs : List CK → List CK → Bool
  | [], [] => true
  | a :: al, b :: bl => ckEq a b && ckEqs al bl
  | _, _ => false
def ksEq (a b : KS) : Bool := (a.agg == b.agg) && ckEqs a.ks b.ks
theorem ckEq_ok {a b : CK} (h : ckEq a b = true) : a = b := by
  cases a <;> cases b <;> simp [ckEq] at h <;> simp [h]
theorem ckEqs_ok : ∀ {a b : List CK}, ckEqs a b = true → a = b
  | [], [], _ => rfl
  | [], _ :: _, h => by simp [ckEqs] at h
  | _ :: _, [], h => by simp [ckEqs] at h
  | a :: al, b :: bl, h => by
    simp only [ckEqs, Bool.and_eq_true] at h
    rw [ckEq_ok h.1, ckEqs_ok h.2]
theorem ksEq_ok {a b : KS} (h : ksEq a b = true) : a = b := by
  simp only [ksEq, Bool.and_eq_true, beq_iff_eq] at h
  cases a; cases b
  simp at h
  rw [h.1, ckEqs_ok h.2]
def tvOf (z : Value) : TV := match z with
  | .agg us => .agg (us.toList.map .val)
  | v => .val v
theorem tvOf_ok (z : Value) : VR g w (tvOf z) z := by
  unfold tvOf
  split
  · rename_i us
    have := VR.mk_agg (VRs.vals g w us.toList)
    simpa using this
  · exact .val _
def lookRes (ok : Bool) (o : Option TV) (z : Value) : TV := match o with
  | some x => bif ok then .tup [x, .val (.bool true)] else x
  | none => bif ok then .tup [tvOf z, .val (.bool false)] else tvOf z
def vlookup (P : Program) (T : VT) (t : TypeId) (m k : TV) (ok : Bool) : Option TV := match P.underlying t, toVal k with
  | some (.map kt et), some kv => match shapeOf P kt, P.info? et with
    | some sh, some i => match i.zero with
      | some z => bif sh.fits kv then (match m with
        | .val (.map none) => some (lookRes ok none z)
        | .map id => match T.objs[id]? with
          | some (.map sh' look _ _) => bif ksEq sh sh' then some (lookRes ok (look kv) z) else none
          | _ => none
        | _ => none) else none
      | none => none
    | _, _ => none
  | _, _ => none
theorem lookRes_ok {ok : Bool} {z : Value} {o : Option TV} {v : Option Value} (h : match o, v with | some x, some u => VR g w x u | none, none => True | _, _ => False) :
    VR g w (lookRes ok o z) (match v with | some u => (if ok then .tuple #[u, .bool true] else u) | none => (if ok then .tuple #[z, .bool false] else z)) := by
  cases o <;> cases v <;> simp only at h <;> cases ok <;> simp only [lookRes, cond_true, cond_false, if_true, Bool.false_eq_true, if_false]
  · exact tvOf_ok z
  · exact .mk_tup (us := [z, .bool false]) (.cons (tvOf_ok z) (.cons (.val _) (.nil g w)))
  · exact h
  · exact .mk_tup (us := [_, .bool true]) (.cons h (.cons (.val _) (.nil g w)))
theorem vlookup_ok (r : RW g T w) {t : TypeId} {m k y : TV} {ok : Bool} {um uk : Value} (h : vlookup P T t m k ok = some y) (hm : VR g w m um) (hk : VR g w k uk) : Looks P g T w (Instr.lookup t um uk ok) y := by
  unfold vlookup at h
  split at h
  · rename_i kt et kv hu hkv
    have hkv' := toVal_ok hkv hk
    subst hkv'
    split at h
    · rename_i sh i hsh hi
      split at h
      · rename_i z hz
        cases hf : sh.fits uk with
        | false => rw [hf] at h; cases h
        | true =>
          rw [hf] at h
          simp only [cond_true] at h
          have hzero : ∀ w', (zeroValue et).run P w' = .ok z w' := fun w' => by simp [zeroValue, typeInfo, hi, hz]
          split at h
          · injection h with h; subst h
            rw [hm.val_inv]
            refine ⟨_, lookRes_ok (v := none) (o := none) trivial, fun w' _ => ?_⟩
            have hfk := findKey_ok hsh hf w' [] (by simp)
            simp only [List.zipIdx_nil, List.findSome?_nil] at hfk
            simp [Instr.lookup, run_underlying hu, shape_check hsh hf, hfk, hzero]
          · rename_i id
            split at h
            · rename_i sh' look es ck hid
              cases hq : ksEq sh sh' with
              | false => rw [hq] at h; cases h
              | true =>
                rw [hq] at h
                have := ksEq_ok hq
                subst this
                injection h with h; subst h
                obtain ⟨b, hb, rfl⟩ := hm.map_inv
                obtain ⟨b', h1, ⟨ms, h2, h3, h4, h5, h6, h7, h8⟩, _⟩ := r.obj id _ hid rfl
                rw [hb] at h1; injection h1 with h1; subst h1
                have hfit : ∀ e ∈ ms.toList, sh.fits e.key = true := fun e he => by
                  have : e.key ∈ ms.toList.map (·.key) := List.mem_map_of_mem he
                  rw [h3] at this
                  obtain ⟨e', he', heq⟩ := List.mem_map.1 this
                  rw [← heq]; exact h6 e' he'
                rw [h8 uk hf]
                have hget : ∀ w', Same g T w w' → w'.heap[b]? = some (.map ms ck) := fun w' hs => (hs.obj id _ b hid rfl hb).trans h2
                rcases mget_at (k := uk) 0 h3 h4 with ⟨g1, g2⟩ | ⟨x, j, v, g1, g2, g3, _⟩
                · rw [g1]
                  refine ⟨_, lookRes_ok (v := none) (o := none) trivial, fun w' hs => ?_⟩
                  have hfk := findKey_ok hsh hf w' ms.toList hfit
                  rw [g2] at hfk
                  simp [Instr.lookup, run_underlying hu, getObj, Sem.run, hget w' hs, shape_check hsh hf, hfk, hzero]
                · rw [g1]
                  refine ⟨_, lookRes_ok (v := some v) (o := some x) g3, fun w' hs => ?_⟩
                  have hfk := findKey_ok hsh hf w' ms.toList hfit
                  rw [g2] at hfk
                  simp [Instr.lookup, run_underlying hu, getObj, Sem.run, hget w' hs, shape_check hsh hf, hfk]
            · cases h
          · cases h
      · cases h
    · cases h
  · cases h
/-! ### Stores -/
theorem sameBits_cell {c : CK} {v : Value} (h : c.fit v = true) (n : Nat) : Instr.sameBits n v v = true := by
  cases c <;> cases v <;> simp [CK.fit] at h <;> cases n <;> simp [Instr.sameBits, beq_toListBytes]
theorem sameBits_self {s : KS} {v : Value} (h : s.fits v = true) : Instr.sameBits 10000 v v = true := by
  obtain ⟨cs, hc, hf⟩ := fits_cells h
  cases hs : s.agg with
  | true =>
    rw [agg_of_cells hs hc]
    simp only [Instr.sameBits, beq_self_eq_true, Bool.true_and]
    rw [List.all_eq_true]
    have key : ∀ (ks : List CK) (cs : List Value), fitAll ks cs = true → ∀ x ∈ cs.zip cs, Instr.sameBits 9999 x.1 x.2 = true := by
      intro ks
      induction ks with
      | nil => intro cs hf x hx; cases cs <;> simp [fitAll] at hf; simp at hx
      | cons k ks ih =>
        intro cs hf x hx
        cases cs with
        | nil => simp at hx
        | cons c cs =>
          simp only [fitAll, Bool.and_eq_true] at hf
          simp only [List.zip_cons_cons, List.mem_cons] at hx
          rcases hx with rfl | hx
          · exact sameBits_cell hf.1 _
          · exact ih cs hf.2 x hx
    exact key s.ks cs hf
  | false =>
    unfold KS.cells at hc
    rw [hs] at hc
    cases v <;> simp at hc <;> subst hc <;> (match hk : s.ks, hf with
      | [c], hf => simp only [fitAll, Bool.and_true] at hf; exact sameBits_cell hf _
      | [], hf => simp [fitAll] at hf
      | _ :: _ :: _, hf => simp [fitAll] at hf)
theorem mput_keys {k : Value} {sh : KS} (hk : sh.fits k = true) (v : TV) (ck : Nat) : ∀ {es : List (Value × TV × Nat)}, (∀ e ∈ es, sh.fits e.1 = true) →
    (mput k v ck es).map (·.1) = (match mget k es with | some _ => es.map (·.1) | none => es.map (·.1) ++ [k])
  | [], _ => rfl
  | e :: es, h => by
    simp only [mput, mget]
    cases hq : keyEq k e.1 with
    | true =>
      have := (keyEq_iff hk (h e (by simp))).1 hq
      simp [this]
    | false =>
      simp only [cond_false, List.map_cons]
      rw [mput_keys hk v ck fun e' he' => h e' (by simp [he'])]
      cases mget k es <;> simp
theorem mget_none {k : Value} {sh : KS} (hk : sh.fits k = true) : ∀ {es : List (Value × TV × Nat)}, (∀ e ∈ es, sh.fits e.1 = true) → (mget k es = none ↔ k ∉ es.map (·.1))
  | [], _ => by simp [mget]
  | e :: es, h => by
    simp only [mget]
    have h1 := keyEq_iff hk (h e (by simp))
    cases hq : keyEq k e.1 with
    | true => simp [h1.1 hq]
    | false =>
      simp only [cond_false, List.map_cons, List.mem_cons, not_or]
      rw [mget_none hk fun e' he' => h e' (by simp [he'])]
      exact ⟨fun h2 => ⟨fun h3 => (by rw [h1.2 h3] at hq; cases hq), h2⟩, fun h2 => h2.2⟩
theorem keyEq_self {s : KS} {a : Value} (ha : s.fits a = true) : keyEq a a = true := (keyEq_iff ha ha).2 rfl
theorem mget_mput {k k' : Value} {sh : KS} (hk : sh.fits k = true) (hk' : sh.fits k' = true) (v : TV) (ck : Nat) : ∀ {es : List (Value × TV × Nat)}, (∀ e ∈ es, sh.fits e.1 = true) →
    mget k' (mput k v ck es) = (bif keyEq k k' then some v else mget k' es)
  | [], _ => by
    simp only [mput, mget]
    have h1 := keyEq_iff hk hk'
    have h2 := keyEq_iff hk' hk
    cases hq : keyEq k k' with
    | true => rw [h2.2 (h1.1 hq).symm]
    | false =>
      have : keyEq k' k = false := by
        cases hp : keyEq k' k with
        | false => rfl
        | true => rw [h1.2 (h2.1 hp).symm] at hq; cases hq
      rw [this]
  | e :: es, h => by
    have he := h e (by simp)
    have h1 := keyEq_iff hk hk'
    have h2 := keyEq_iff hk' hk
    have h3 := keyEq_iff hk he
    have h4 := keyEq_iff hk' he
    have ih := mget_mput hk hk' v ck (es := es) fun e' he' => h e' (by simp [he'])
    simp only [mput]
    cases hq : keyEq k e.1 with
    | true =>
      simp only [cond_true, mget]
      have e1 := h3.1 hq
      cases hp : keyEq k k' with
      | true => rw [h2.2 (h1.1 hp).symm]; rfl
      | false =>
        have : keyEq k' k = false := by
          cases hr : keyEq k' k with
          | false => rfl
          | true => rw [h1.2 (h2.1 hr).symm] at hp; cases hp
        rw [this, ← e1, this]; rfl
    | false =>
      simp only [cond_false, mget]
      cases hp : keyEq k' e.1 with
      | true =>
        simp only [cond_true]
        cases hr : keyEq k k' with
        | false => rfl
        | true => rw [h1.1 hr, hp] at hq; cases hq
      | false => simp only [cond_false]; exact ih
theorem mput_fits {k : Value} {sh : KS} (hk : sh.fits k = true) (v : TV) (ck : Nat) {es : List (Value × TV × Nat)} (h : ∀ e ∈ es, sh.fits e.1 = true) : ∀ e ∈ mput k v ck es, sh.fits e.1 = true := by
  have h1 := mput_keys hk v ck h
  intro e he
  have : e.1 ∈ (mput k v ck es).map (·.1) := List.mem_map_of_mem he
  rw [h1] at this
  split at this
  · obtain ⟨e', he', heq⟩ := List.mem_map.1 this
    rw [← heq]; exact h e' he'
  · rcases List.mem_append.1 this with h2 | h2
    · obtain ⟨e', he', heq⟩ := List.mem_map.1 h2
      rw [← heq]; exact h e' he'
    · simp at h2; rw [h2]; exact hk
theorem mput_nodup {k : Value} {sh : KS} (hk : sh.fits k = true) (v : TV) (ck : Nat) {es : List (Value × TV × Nat)} (h : ∀ e ∈ es, sh.fits e.1 = true) (hn : (es.map (·.1)).Nodup) : ((mput k v ck es).map (·.1)).Nodup := by
  rw [mput_keys hk v ck h]
  split
  · exact hn
  · rename_i hm
    have := (mget_none hk h).1 hm
    rw [List.nodup_append]
    refine ⟨hn, by simp, fun a ha b hb => ?_⟩
    simp at hb; subst hb
    rintro rfl
    exact this ha
end
end Go.Proofs.YtapfboldkkodkaaGreatDoor
