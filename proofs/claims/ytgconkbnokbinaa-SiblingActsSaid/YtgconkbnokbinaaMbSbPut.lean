/- Siblings: a site added, a site removed. -/
import Derived.Test.YtgconkbnokbinaaMbSbAll
namespace Go.Proofs.Ytgconkbnokbinaa
open Go.RowKit Go.Maps Go.Sort

theorem keyEnc (k : Value) : (∃ z, ∀ i, keyEq (encI i) k = (i == z)) ∨ (∀ i, keyEq (encI i) k = false) := by
  cases k
  case int q z => exact .inl ⟨z, fun i => rfl⟩
  all_goals exact .inr fun i => rfl
def zipS (S : List SiT) (st : List Nat) : List (Value × TV × Nat) := List.zipWith (fun s b => (encI s.1, siT s, b)) S st
theorem zip_put (t : SiT) (ck : Nat) : ∀ {S : List SiT} {st : List Nat}, st.length = S.length → S.find? (fun s => s.1 == t.1) = none → mput (encI t.1) (siT t) ck (zipS S st) = zipS (S ++ [t]) (st ++ [ck])
  | [], [], _, _ => rfl
  | [], _ :: _, h, _ => by simp at h
  | _ :: _, [], h, _ => by simp at h
  | s :: S, b :: st, h, hn => by
    have hs : (s.1 == t.1) = false := by
      have := List.find?_eq_none.1 hn s List.mem_cons_self
      simpa using this
    have hn2 : S.find? (fun s => s.1 == t.1) = none := by rw [List.find?_cons, hs] at hn; exact hn
    have hs2 : (t.1 == s.1) = false := by rw [beq_eq_false_iff_ne] at hs ⊢; exact fun e => hs e.symm
    have ih := zip_put t ck (S := S) (st := st) (by simpa using h) hn2
    show (bif (t.1 == s.1) then _ else _) = _
    rw [hs2, cond_false]
    exact congrArg (List.cons _) ih
def delS (i : Int) : List SiT → List SiT
  | [] => []
  | s :: S => bif i == s.1 then S else s :: delS i S
def delB (i : Int) : List SiT → List Nat → List Nat
  | s :: S, b :: st => bif i == s.1 then st else b :: delB i S st
  | _, _ => []
theorem zip_del (i : Int) : ∀ {S : List SiT} {st : List Nat}, st.length = S.length → mdel (encI i) (zipS S st) = zipS (delS i S) (delB i S st) ∧ (delB i S st).length = (delS i S).length ∧ (delB i S st).Sublist st ∧ (delS i S).Sublist S
  | [], [], _ => ⟨rfl, rfl, .slnil, .slnil⟩
  | [], _ :: _, h => by simp at h
  | _ :: _, [], h => by simp at h
  | s :: S, b :: st, h => by
    obtain ⟨h1, h2, h3, h4⟩ := zip_del i (S := S) (st := st) (by simpa using h)
    cases hc : i == s.1
    · have e1 : delS i (s :: S) = s :: delS i S := by simp only [delS, hc, cond_false]
      have e2 : delB i (s :: S) (b :: st) = b :: delB i S st := by simp only [delB, hc, cond_false]
      rw [e1, e2]
      refine ⟨?_, by simp [h2], h3.cons_cons _, h4.cons_cons _⟩
      show (bif (i == s.1) then _ else _) = _
      rw [hc, cond_false]
      exact congrArg (List.cons _) h1
    · have e1 : delS i (s :: S) = S := by simp only [delS, hc, cond_true]
      have e2 : delB i (s :: S) (b :: st) = st := by simp only [delB, hc, cond_true]
      rw [e1, e2]
      refine ⟨?_, by simpa using h, List.sublist_cons_self _ _, List.sublist_cons_self _ _⟩
      show (bif (i == s.1) then _ else _) = _
      rw [hc, cond_true]; rfl
theorem delS_find (i z : Int) : ∀ {S : List SiT}, (S.map (·.1)).Nodup → (delS i S).find? (fun s => s.1 == z) = bif i == z then none else S.find? fun s => s.1 == z
  | [], _ => by cases h : i == z <;> rfl
  | s :: S, hd => by
    have hd2 : (S.map (·.1)).Nodup := (List.nodup_cons.1 hd).2
    have ih := delS_find i z hd2
    cases hc : i == s.1
    · have e1 : delS i (s :: S) = s :: delS i S := by simp only [delS, hc, cond_false]
      rw [e1, List.find?_cons, List.find?_cons, ih]
      cases hz : s.1 == z
      · rfl
      · have : (i == z) = false := by
          rw [beq_eq_false_iff_ne] at hc ⊢
          rw [beq_iff_eq] at hz
          exact fun e => hc (e.trans hz.symm)
        rw [this]; rfl
    · have e1 : delS i (s :: S) = S := by simp only [delS, hc, cond_true]
      rw [beq_iff_eq] at hc
      rw [e1, List.find?_cons]
      cases hz : i == z
      · rw [← hc, hz]; rfl
      · rw [beq_iff_eq] at hz
        rw [← hc]
        simp only [hz, beq_self_eq_true, cond_true]
        refine List.find?_eq_none.2 fun t ht h => ?_
        rw [beq_iff_eq] at h
        exact (List.nodup_cons.1 hd).1 (by
          have : s.1 = t.1 := by rw [← hc, hz, h]
          show s.1 ∈ _
          rw [this]; exact List.mem_map_of_mem ht)
/-- a new site -/
theorem SitesOk.put {lk : Value → Option TV} {es : List (Value × TV × Nat)} {ck : Nat} {S : List SiT} {st : List Nat} (h : SitesOk lk es ck S st) (t : SiT) (hn : S.find? (fun s => s.1 == t.1) = none) (hi : 0 ≤ t.1 ∧ t.1 < 256) (hl : S.length < 8) :
    SitesOk (fun k => bif keyEq (encI t.1) k then some (siT t) else lk k) (mput (encI t.1) (siT t) ck es) (ck + 1) (S ++ [t]) (st ++ [ck]) where
  look := by
    funext k
    rw [h.look]
    simp only [List.find?_append]
    rcases keyEnc k with ⟨z, hz⟩ | hz
    · simp only [hz]
      cases hc : t.1 == z
      · simp [hc]
      · rw [beq_iff_eq] at hc
        rw [← hc, hn]; simp
    · simp [hz]
  ents := by rw [h.ents]; exact zip_put t ck h.slen hn
  slen := by simp [h.slen]
  nd := by
    rw [List.map_append]
    refine List.nodup_append.2 ⟨h.nd, by simp, fun a ha b hb e => ?_⟩
    obtain ⟨s, hs, rfl⟩ := List.mem_map.1 ha
    have hb' : b = t.1 := by simpa using hb
    have := List.find?_eq_none.1 hn s hs
    simp [e, hb'] at this
  ids := fun s hs => by
    rcases List.mem_append.1 hs with hs | hs
    · exact h.ids s hs
    · rw [List.mem_singleton.1 hs]; exact hi
  born := fun b hb => by
    rcases List.mem_append.1 hb with hb | hb
    · have := h.born b hb; omega
    · rw [List.mem_singleton.1 hb]; omega
  borns := List.nodup_append.2 ⟨h.borns, by simp, fun a ha b hb e => by
    have := h.born a ha
    rw [List.mem_singleton.1 hb] at e
    omega⟩
  few := by simp; omega
/-- a site goes -/
theorem SitesOk.del {lk : Value → Option TV} {es : List (Value × TV × Nat)} {ck : Nat} {S : List SiT} {st : List Nat} (h : SitesOk lk es ck S st) (i : Int) :
    SitesOk (fun k => bif keyEq (encI i) k then none else lk k) (mdel (encI i) es) ck (delS i S) (delB i S st) := by
  obtain ⟨h1, h2, h3, h4⟩ := zip_del i h.slen
  exact {
    look := by
      funext k
      rw [h.look]
      simp only
      rcases keyEnc k with ⟨z, hz⟩ | hz
      · simp only [hz]
        rw [delS_find i z h.nd]
        cases hc : i == z <;> rfl
      · have e : ∀ l : List SiT, l.find? (fun _ => false) = none := fun l => by induction l <;> simp_all
        simp only [hz, cond_false, e]
    ents := by rw [h.ents]; exact h1
    slen := h2
    nd := h.nd.sublist (h4.map _)
    ids := fun s hs => h.ids s (h4.subset hs)
    born := fun b hb => h.born b (h3.subset hb)
    borns := h.borns.sublist h3
    few := Nat.le_trans h4.length_le h.few }
end Go.Proofs.Ytgconkbnokbinaa
