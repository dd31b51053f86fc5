/- Siblings: the document's table, plainly: rows by their numbers. -/
import Derived.Test.YtgconkbnokbinaaMbSbLb
namespace Go.Proofs.Ytgconkbnokbinaa
open Go.RowKit Go.Maps Go.Sort

abbrev Rw := SiT × Int × Int
def rwE (r : Rw) : List TV := [.val (.int .i64 r.1.1), .val (.int .u32 r.1.2.1), .val (.int .i64 r.1.2.2), .val (.int .i64 r.2.1), .val (.int .i64 r.2.2)]
def refL (S : List SiT) (R : RpM) : List Rw := (byId S).map fun s => (s, rptR R s.1)
/-- what holds of a table -/
structure Good (S : List SiT) (R : RpM) : Prop where
  nd : (S.map (·.1)).Nodup
  few : S.length ≤ 8
  gone : ∀ i, S.find? (fun s => s.1 == i) = none → R i = none
def ltR (a b : Rw) : Prop := a.1.1 < b.1.1
theorem sortedR_ext : ∀ {l m : List Rw}, l.Pairwise ltR → m.Pairwise ltR → (∀ x, x ∈ l ↔ x ∈ m) → l = m
  | [], [], _, _, _ => rfl
  | [], b :: m, _, _, h => by have := (h b).2 (by simp); simp at this
  | a :: l, [], _, _, h => by have := (h a).1 (by simp); simp at this
  | a :: l, b :: m, hl, hm, h => by
    obtain ⟨hl1, hl2⟩ := List.pairwise_cons.1 hl
    obtain ⟨hm1, hm2⟩ := List.pairwise_cons.1 hm
    have e : a = b := by
      rcases List.mem_cons.1 ((h a).1 (by simp)) with h1 | h1
      · exact h1
      · rcases List.mem_cons.1 ((h b).2 (by simp)) with h2 | h2
        · exact h2.symm
        · have := hm1 a h1; have := hl1 b h2; unfold ltR at *; omega
    subst e
    congr 1
    refine sortedR_ext hl2 hm2 fun x => ⟨fun hx => ?_, fun hx => ?_⟩
    · rcases List.mem_cons.1 ((h x).1 (List.mem_cons_of_mem _ hx)) with rfl | h1
      · have := hl1 x hx; unfold ltR at this; omega
      · exact h1
    · rcases List.mem_cons.1 ((h x).2 (List.mem_cons_of_mem _ hx)) with rfl | h1
      · have := hm1 x hx; unfold ltR at this; omega
      · exact h1
theorem idsOf_sorted {S : List SiT} (h : (S.map (·.1)).Nodup) : (idsOf S).Pairwise (· < ·) := by
  have h1 := List.pairwise_mergeSort (le := leI) (fun a b c h1 h2 => by simp only [leI, decide_eq_true_eq] at *; omega) (fun a b => by simp only [leI, Bool.or_eq_true, decide_eq_true_eq]; omega) (S.map (·.1))
  have h2 : (idsOf S).Nodup := by unfold idsOf; exact (List.mergeSort_perm (S.map fun s : SiT => s.1) leI).nodup_iff.2 h
  refine List.Pairwise.imp₂ (S := fun a b => a ≠ b) (fun a b h1 h2 => ?_) h1 h2
  simp only [leI, decide_eq_true_eq] at h1
  omega
theorem fndS_id {S : List SiT} {z : Int} (h : z ∈ S.map (·.1)) : fndS S z ∈ S ∧ (fndS S z).1 = z := by
  obtain ⟨s0, hs0, he⟩ := List.mem_map.1 h
  unfold fndS
  cases hf : S.find? fun s => s.1 == z with
  | none =>
    have := List.find?_eq_none.1 hf s0 hs0
    simp [he] at this
  | some s => exact ⟨List.mem_of_find?_eq_some hf, by simpa using List.find?_some hf⟩
theorem byId_fnd (S : List SiT) : byId S = (idsOf S).map (fndS S) := rfl
theorem idsOf_mem {S : List SiT} {z : Int} : z ∈ idsOf S ↔ z ∈ S.map (·.1) := (List.mergeSort_perm (S.map (·.1)) leI).mem_iff
theorem fnd_uniq : ∀ {S : List SiT} {s : SiT}, (S.map (·.1)).Nodup → s ∈ S → S.find? (fun t => t.1 == s.1) = some s
  | [], _, _, h => by simp at h
  | t :: S, s, hd, h => by
    obtain ⟨h1, h2⟩ := List.nodup_cons.1 (show (t.1 :: S.map fun s : SiT => s.1).Nodup from hd)
    rw [List.find?_cons]
    rcases List.mem_cons.1 h with rfl | h
    · simp
    · have : (t.1 == s.1) = false := by
        rw [beq_eq_false_iff_ne]
        intro e
        exact h1 (by rw [e]; exact List.mem_map_of_mem h)
      rw [this]
      exact fnd_uniq h2 h
theorem mem_byId {S : List SiT} (hd : (S.map (·.1)).Nodup) {s : SiT} : s ∈ byId S ↔ s ∈ S := by
  constructor
  · exact fun h => (byId_mem h).1
  · intro h
    rw [byId_fnd]
    refine List.mem_map.2 ⟨s.1, idsOf_mem.2 (List.mem_map_of_mem h), ?_⟩
    unfold fndS
    rw [fnd_uniq hd h]; rfl
theorem byId_sorted {S : List SiT} (hd : (S.map (·.1)).Nodup) : (byId S).Pairwise fun a b => a.1 < b.1 := by
  rw [byId_fnd, List.pairwise_map]
  refine List.Pairwise.imp_of_mem (fun {a b} ha hb hab => ?_) (idsOf_sorted hd)
  rw [(fndS_id (idsOf_mem.1 ha)).2, (fndS_id (idsOf_mem.1 hb)).2]
  exact hab
theorem refL_sorted {S : List SiT} (hd : (S.map (·.1)).Nodup) (R : RpM) : (refL S R).Pairwise ltR := by
  unfold refL
  rw [List.pairwise_map]
  exact byId_sorted hd
theorem mem_refL {S : List SiT} (hd : (S.map (·.1)).Nodup) {R : RpM} {r : Rw} : r ∈ refL S R ↔ r.1 ∈ S ∧ r.2 = rptR R r.1.1 := by
  unfold refL
  rw [List.mem_map]
  constructor
  · rintro ⟨s, hs, rfl⟩
    exact ⟨(mem_byId hd).1 hs, rfl⟩
  · rintro ⟨h1, h2⟩
    exact ⟨r.1, (mem_byId hd).2 h1, by rw [← h2]⟩
theorem refL_len {S : List SiT} (R : RpM) : (refL S R).length = S.length := by
  unfold refL; rw [List.length_map, byId_fnd, List.length_map, idsOf_len]
/-! ### Where a number stands -/
def fiR (L : List Rw) (i : Int) : Option Nat := L.findIdx? fun r => r.1.1 == i
theorem fiR_some {L : List Rw} {i : Int} {k : Nat} (h : fiR L i = some k) : ∃ r, L[k]? = some r ∧ r.1.1 = i ∧ ∀ j r', j < k → L[j]? = some r' → r'.1.1 ≠ i := by
  unfold fiR at h
  obtain ⟨hk, h1, h2⟩ := List.findIdx?_eq_some_iff_getElem.1 h
  refine ⟨L[k], List.getElem?_eq_getElem hk, by simpa using h1, fun j r' hj hr => ?_⟩
  have := h2 j hj
  obtain ⟨hj2, rfl⟩ := List.getElem?_eq_some_iff.1 hr
  simpa using this
theorem fiR_none {L : List Rw} {i : Int} (h : fiR L i = none) : ∀ r ∈ L, r.1.1 ≠ i := fun r hr => by
  have := List.findIdx?_eq_none_iff.1 h r hr
  simpa using this
theorem fiR_has {S : List SiT} (hd : (S.map (·.1)).Nodup) {R : RpM} {i : Int} : (fiR (refL S R) i).isSome = hasS S i := by
  unfold hasS
  cases hf : fiR (refL S R) i with
  | none =>
    have h1 := fiR_none hf
    cases hs : S.find? fun s => s.1 == i with
    | none => rfl
    | some s =>
      have h2 := List.mem_of_find?_eq_some hs
      have h3 : s.1 = i := by simpa using List.find?_some hs
      exact absurd h3 (h1 (s, rptR R s.1) ((mem_refL hd).2 ⟨h2, rfl⟩))
  | some k =>
    obtain ⟨r, h1, h2, _⟩ := fiR_some hf
    have h3 := ((mem_refL hd).1 (List.mem_of_getElem? h1)).1
    cases hs : S.find? fun s => s.1 == i with
    | none =>
      have := List.find?_eq_none.1 hs r.1 h3
      simp [h2] at this
    | some s => rfl
/-! ### Added -/
theorem mem_tw {p : Rw → Bool} {r : Rw} : ∀ {l : List Rw}, r ∈ l.takeWhile p → p r = true
  | [], h => by simp at h
  | a :: l, h => by
    rw [List.takeWhile_cons] at h
    split at h
    · rename_i ha
      rcases List.mem_cons.1 h with rfl | h
      · exact ha
      · exact mem_tw h
    · simp at h
theorem tw_all {p : Rw → Bool} : ∀ {l : List Rw}, (∀ r ∈ l, p r = true) → l.takeWhile p = l
  | [], _ => rfl
  | a :: l, h => by
    rw [List.takeWhile_cons, if_pos (h a List.mem_cons_self), tw_all fun r hr => h r (List.mem_cons_of_mem _ hr)]
def kA (L : List Rw) (i : Int) : Nat := (L.takeWhile fun r => decide (r.1.1 < i)).length
theorem kA_le (L : List Rw) (i : Int) : kA L i ≤ L.length := (List.takeWhile_sublist _).length_le
theorem kA_take : ∀ (L : List Rw) (i : Int), L.take (kA L i) = L.takeWhile fun r => decide (r.1.1 < i)
  | [], _ => rfl
  | a :: L, i => by
    unfold kA
    rw [List.takeWhile_cons]
    split
    · rw [List.length_cons, List.take_succ_cons]
      exact congrArg (List.cons a) (kA_take L i)
    · rfl
theorem kA_lt {L : List Rw} {i : Int} : ∀ r ∈ L.take (kA L i), r.1.1 < i := fun r hr => by
  rw [kA_take] at hr
  have := mem_tw hr
  simpa using this
theorem kA_ge : ∀ {L : List Rw} {i : Int}, L.Pairwise ltR → ∀ r ∈ L.drop (kA L i), i ≤ r.1.1
  | [], _, _, r, hr => by simp at hr
  | a :: L, i, hp, r, hr => by
    obtain ⟨h1, h2⟩ := List.pairwise_cons.1 hp
    unfold kA at hr
    rw [List.takeWhile_cons] at hr
    split at hr
    · rw [List.length_cons, List.drop_succ_cons] at hr
      exact kA_ge h2 r hr
    · rename_i hc
      have hc : ¬ a.1.1 < i := by simpa using hc
      rw [List.length_nil, List.drop_zero] at hr
      rcases List.mem_cons.1 hr with rfl | hr
      · omega
      · have := h1 r hr; unfold ltR at this; omega
theorem kA_step {L : List Rw} {i : Int} {j : Nat} {r : Rw} (h : L[j]? = some r) (hj : ∀ k r', k < j → L[k]? = some r' → r'.1.1 < i) (hr : ¬ r.1.1 < i) : kA L i = j := by
  rcases Nat.lt_trichotomy (kA L i) j with h1 | h1 | h1
  · obtain ⟨hjl, _⟩ := List.getElem?_eq_some_iff.1 h
    have hk : kA L i < L.length := by omega
    have h2 := hj _ _ h1 (List.getElem?_eq_getElem hk)
    exfalso
    -- the row at kA is not below i
    have : ∀ (L : List Rw) (hk : kA L i < L.length), ¬ (L[kA L i]'hk).1.1 < i := by
      intro L
      induction L with
      | nil => intro hk; simp at hk
      | cons a L ih =>
        intro hk hlt
        have e : kA (a :: L) i = if a.1.1 < i then kA L i + 1 else 0 := by
          unfold kA
          rw [List.takeWhile_cons]
          by_cases c : a.1.1 < i
          · simp [c]
          · simp [c]
        by_cases c : a.1.1 < i
        · simp only [e, if_pos c, List.getElem_cons_succ, List.length_cons] at hk hlt
          exact ih (by omega) hlt
        · simp only [e, if_neg c, List.getElem_cons_zero] at hlt
          exact c hlt
    exact this L hk h2
  · exact h1
  · have h2 : r ∈ L.take (kA L i) := List.mem_of_getElem? (by rw [List.getElem?_take, if_pos h1]; exact h)
    exact absurd (kA_lt r h2) hr
theorem kA_all {L : List Rw} {i : Int} (h : ∀ k r', k < L.length → L[k]? = some r' → r'.1.1 < i) : kA L i = L.length := by
  unfold kA
  rw [tw_all]
  intro r hr
  obtain ⟨k, hk, rfl⟩ := List.getElem_of_mem hr
  simpa using h k _ hk (List.getElem?_eq_getElem hk)
theorem refL_add {S : List SiT} {R : RpM} (g : Good S R) {t : SiT} (hn : S.find? (fun s => s.1 == t.1) = none) :
    refL (S ++ [t]) R = (refL S R).take (kA (refL S R) t.1) ++ [(t, 0, 0)] ++ (refL S R).drop (kA (refL S R) t.1) := by
  have hne : ∀ s ∈ S, s.1 ≠ t.1 := fun s hs => by have := List.find?_eq_none.1 hn s hs; simpa using this
  have hd2 : ((S ++ [t]).map (·.1)).Nodup := by
    rw [List.map_append]
    refine List.nodup_append.2 ⟨g.nd, by simp, fun a ha b hb e => ?_⟩
    obtain ⟨s, hs, rfl⟩ := List.mem_map.1 ha
    exact hne s hs (e.trans (by simpa using hb))
  have hs := refL_sorted g.nd R
  have hge := kA_ge (i := t.1) hs
  have hlt := kA_lt (L := refL S R) (i := t.1)
  have h0 : rptR R t.1 = (0, 0) := by unfold rptR; rw [g.gone t.1 hn]; rfl
  have hmem : ∀ x, x ∈ refL S R ↔ x ∈ (refL S R).take (kA (refL S R) t.1) ∨ x ∈ (refL S R).drop (kA (refL S R) t.1) := fun x => by
    rw [← List.mem_append, List.take_append_drop]
  refine sortedR_ext (refL_sorted hd2 R) ?_ fun x => ?_
  · rw [List.append_assoc, List.pairwise_append]
    refine ⟨hs.sublist (List.take_sublist _ _), ?_, ?_⟩
    · rw [List.singleton_append, List.pairwise_cons]
      refine ⟨fun r hr => ?_, hs.sublist (List.drop_sublist _ _)⟩
      have h1 := hge r hr
      have h2 := hne r.1 ((mem_refL g.nd).1 (List.mem_of_mem_drop hr)).1
      show t.1 < r.1.1
      omega
    · intro a ha b hb
      have h1 := hlt a ha
      rcases List.mem_append.1 hb with hb | hb
      · rw [List.mem_singleton.1 hb]; exact h1
      · have := hge b hb
        show a.1.1 < b.1.1
        omega
  · rw [mem_refL hd2]
    simp only [List.mem_append, List.mem_singleton]
    constructor
    · rintro ⟨h1 | h1, h2⟩
      · have := (hmem x).1 ((mem_refL g.nd).2 ⟨h1, h2⟩)
        rcases this with h | h
        · exact .inl (.inl h)
        · exact .inr h
      · refine .inl (.inr ?_)
        rw [h1, h0] at h2
        exact Prod.ext h1 h2
    · rintro ((h | h) | h)
      · obtain ⟨h1, h2⟩ := (mem_refL g.nd).1 ((hmem x).2 (.inl h)); exact ⟨.inl h1, h2⟩
      · subst h; exact ⟨.inr rfl, h0.symm⟩
      · obtain ⟨h1, h2⟩ := (mem_refL g.nd).1 ((hmem x).2 (.inr h)); exact ⟨.inl h1, h2⟩
/-! ### Removed -/
theorem mem_delS {i : Int} : ∀ {S : List SiT}, (S.map (·.1)).Nodup → ∀ s, s ∈ delS i S ↔ s ∈ S ∧ s.1 ≠ i
  | [], _, s => by simp [delS]
  | t :: S, hd, s => by
    obtain ⟨h1, h2⟩ := List.nodup_cons.1 (show (t.1 :: S.map fun s : SiT => s.1).Nodup from hd)
    have ih := mem_delS (i := i) h2 s
    cases hc : i == t.1
    · have e1 : delS i (t :: S) = t :: delS i S := by simp only [delS, hc, cond_false]
      rw [beq_eq_false_iff_ne] at hc
      rw [e1, List.mem_cons, ih, List.mem_cons]
      constructor
      · rintro (rfl | ⟨h3, h4⟩)
        · exact ⟨.inl rfl, fun e => hc e.symm⟩
        · exact ⟨.inr h3, h4⟩
      · rintro ⟨rfl | h3, h4⟩
        · exact .inl rfl
        · exact .inr ⟨h3, h4⟩
    · have e1 : delS i (t :: S) = S := by simp only [delS, hc, cond_true]
      rw [beq_iff_eq] at hc
      rw [e1, List.mem_cons]
      constructor
      · intro h3
        refine ⟨.inr h3, fun e => h1 ?_⟩
        rw [← hc, ← e]; exact List.mem_map_of_mem h3
      · rintro ⟨rfl | h3, h4⟩
        · exact absurd hc.symm h4
        · exact h3
theorem delS_sub (i : Int) : ∀ S : List SiT, (delS i S).Sublist S
  | [] => .slnil
  | t :: S => by
    unfold delS
    cases i == t.1
    · exact (delS_sub i S).cons_cons t
    · exact List.sublist_cons_self _ _
theorem rptR_del {R : RpM} {i z : Int} (h : z ≠ i) : rptR (delR i R) z = rptR R z := by
  have : (i == z) = false := by rw [beq_eq_false_iff_ne]; exact fun e => h e.symm
  simp only [rptR, delR, this, cond_false]
theorem refL_del {S : List SiT} {R : RpM} (g : Good S R) {i : Int} {k : Nat} (hk : fiR (refL S R) i = some k) :
    refL (delS i S) (delR i R) = (refL S R).take k ++ (refL S R).drop (k + 1) := by
  obtain ⟨r, h1, h2, h3⟩ := fiR_some hk
  have hd2 : ((delS i S).map (·.1)).Nodup := g.nd.sublist ((delS_sub i S).map _)
  have hs := refL_sorted g.nd R
  have hkl := (List.getElem?_eq_some_iff.1 h1).1
  have hsub : ((refL S R).take k ++ (refL S R).drop (k + 1)).Sublist (refL S R) := by
    conv => rhs; rw [← List.take_append_drop k (refL S R)]
    refine (List.Sublist.refl _).append ?_
    rw [List.drop_eq_getElem_cons hkl]
    exact List.sublist_cons_self _ _
  have hsplit : refL S R = (refL S R).take k ++ r :: (refL S R).drop (k + 1) := by
    conv => lhs; rw [← List.take_append_drop k (refL S R)]
    rw [List.drop_eq_getElem_cons hkl, (List.getElem?_eq_some_iff.1 h1).2]
  refine sortedR_ext (refL_sorted hd2 _) (hs.sublist hsub) fun x => ?_
  rw [mem_refL hd2, mem_delS g.nd]
  have hpw := hs
  rw [hsplit, List.pairwise_append] at hpw
  obtain ⟨_, hp2, hp3⟩ := hpw
  obtain ⟨hp4, _⟩ := List.pairwise_cons.1 hp2
  rw [List.mem_append]
  constructor
  · rintro ⟨⟨a1, a2⟩, a3⟩
    rw [rptR_del a2] at a3
    have hm := (mem_refL g.nd).2 ⟨a1, a3⟩
    rw [hsplit, List.mem_append, List.mem_cons] at hm
    rcases hm with h | h | h
    · exact .inl h
    · rw [h] at a2; exact absurd h2 a2
    · exact .inr h
  · intro h
    have hm : x ∈ refL S R := hsub.subset (List.mem_append.2 h)
    obtain ⟨a1, a2⟩ := (mem_refL g.nd).1 hm
    have hne : x.1.1 ≠ i := by
      rcases h with h | h
      · have := hp3 x h r (List.mem_cons_self); unfold ltR at this; omega
      · have := hp4 x h; unfold ltR at this; omega
    exact ⟨⟨a1, hne⟩, by rw [rptR_del hne]; exact a2⟩
/-! ### Reported -/
theorem refL_put {S : List SiT} {R : RpM} (g : Good S R) {i : Int} {k : Nat} {r : Rw} (hk : fiR (refL S R) i = some k) (hr : (refL S R)[k]? = some r) (p : Int × Int) :
    refL S (putR i p R) = (refL S R).set k (r.1, p) := by
  obtain ⟨r', h1, h2, h3⟩ := fiR_some hk
  rw [hr] at h1; injection h1 with h1; subst h1
  have hs := refL_sorted g.nd R
  apply List.ext_getElem?
  intro j
  rw [List.getElem?_set]
  have hl : k < (refL S R).length := (List.getElem?_eq_some_iff.1 hr).1
  have e1 : (refL S (putR i p R))[j]? = (byId S)[j]?.map fun s : SiT => (s, rptR (putR i p R) s.1) := by unfold refL; rw [List.getElem?_map]
  have e2 : ∀ j : Nat, (refL S R)[j]? = (byId S)[j]?.map fun s : SiT => (s, rptR R s.1) := fun j => by unfold refL; rw [List.getElem?_map]
  rw [e1]
  cases hb : (byId S)[j]? with
  | none =>
    have hn : (refL S R)[j]? = none := by rw [e2, hb]; rfl
    have : (refL S R).length ≤ j := List.getElem?_eq_none_iff.1 hn
    rw [if_neg (by omega), hn]; rfl
  | some s =>
    have hj : (refL S R)[j]? = some (s, rptR R s.1) := by rw [e2, hb]; rfl
    simp only [Option.map_some]
    by_cases hkj : k = j
    · subst hkj
      rw [if_pos rfl, if_pos hl]
      rw [hr] at hj; injection hj with hj
      have : r.1 = s := by rw [hj]
      rw [this] at h2 ⊢
      have : rptR (putR i p R) s.1 = p := by simp [rptR, putR, h2]
      rw [this]
    · rw [if_neg hkj, hj]
      have hne : s.1 ≠ i := by
        intro e
        have hjl := (List.getElem?_eq_some_iff.1 hj).1
        rcases Nat.lt_or_ge j k with h | h
        · exact h3 j _ h hj e
        · have hp := List.pairwise_iff_getElem.1 hs k j hl hjl (by omega)
          rw [(List.getElem?_eq_some_iff.1 hr).2, (List.getElem?_eq_some_iff.1 hj).2] at hp
          unfold ltR at hp
          simp only [e, h2] at hp
          omega
      have : (i == s.1) = false := by rw [beq_eq_false_iff_ne]; exact fun e => hne e.symm
      simp only [rptR, putR, this, cond_false]
/-! ### What can be taken -/
theorem cap_row {S : List SiT} {R : RpM} (g : Good S R) {i n : Int} : capR R i n = match fiR (refL S R) i with
    | none => 0
    | some k => match (refL S R)[k]? with
      | some r => if n ≥ r.2.2 then 0 else r.2.1
      | none => 0 := by
  have hh := fiR_has g.nd (R := R) (i := i)
  cases hf : fiR (refL S R) i with
  | none =>
    rw [hf] at hh
    have hn : S.find? (fun s => s.1 == i) = none := by
      unfold hasS at hh
      cases h : S.find? fun s => s.1 == i with
      | none => rfl
      | some s => rw [h] at hh; cases hh
    simp only [capR, g.gone i hn]
  | some k =>
    obtain ⟨r, h1, h2, _⟩ := fiR_some hf
    obtain ⟨_, h4⟩ := (mem_refL g.nd).1 (List.mem_of_getElem? h1)
    rw [h2] at h4
    simp only [h1, h4, rptR, capR]
    cases R i with
    | none =>
      simp only [Option.getD_none]
      split <;> rfl
    | some q =>
      simp only [Option.getD_some]
      by_cases hc : n ≥ q.2
      · rw [decide_eq_true hc, if_pos hc]; rfl
      · rw [decide_eq_false hc, if_neg hc]; rfl
/-! ### The best one -/
def beF1 (R : RpM) (n : Int) (q : Bool × SiT) (s : SiT) : Bool × SiT := if 0 < capR R s.1 n ∧ (q.1 = false ∨ s.2.2 < q.2.2.2) then (true, s) else q
def beF2 (S : List SiT) (R : RpM) (n : Int) (j : Nat) : Bool × SiT := ((byId S).take j).foldl (beF1 R n) (false, (0, 0, 0))
theorem beF2_inv {S : List SiT} (hd : (S.map (·.1)).Nodup) (R : RpM) (n : Int) : ∀ (l : List SiT), l.Pairwise (fun a b => a.1 < b.1) → ∀ (q : Bool × SiT), (q.1 = true → ∀ s ∈ l, q.2.1 < s.1) →
    let z := l.foldl (beF1 R n) q
    (z = q ∨ (z.1 = true ∧ z.2 ∈ l ∧ 0 < capR R z.2.1 n)) ∧ (q.1 = true → z.1 = true ∧ leS z.2 q.2 = true) ∧ ∀ s ∈ l, 0 < capR R s.1 n → z.1 = true ∧ leS z.2 s = true
  | [], _, q, _ => ⟨.inl rfl, fun h => ⟨h, by simp [leS]⟩, fun s h => by simp at h⟩
  | a :: l, hp, q, hq => by
    obtain ⟨hp1, hp2⟩ := List.pairwise_cons.1 hp
    simp only [List.foldl_cons]
    by_cases hc : 0 < capR R a.1 n ∧ (q.1 = false ∨ a.2.2 < q.2.2.2)
    · have e : beF1 R n q a = (true, a) := by unfold beF1; rw [if_pos hc]
      rw [e]
      obtain ⟨i1, i2, i3⟩ := beF2_inv hd R n l hp2 (true, a) (fun _ s hs => hp1 s hs)
      obtain ⟨i4, i5⟩ := i2 rfl
      refine ⟨.inr ?_, fun hqt => ⟨i4, ?_⟩, fun s hs hcs => ?_⟩
      · rcases i1 with h | ⟨h1, h2, h3⟩
        · rw [h]; exact ⟨rfl, List.mem_cons_self, hc.1⟩
        · exact ⟨h1, List.mem_cons_of_mem _ h2, h3⟩
      · refine leS_trans _ _ _ i5 ?_
        rcases hc.2 with h | h
        · rw [hqt] at h; cases h
        · simp only [leS, Bool.or_eq_true, Bool.and_eq_true, decide_eq_true_eq]; exact .inl h
      · rcases List.mem_cons.1 hs with rfl | hs
        · exact ⟨i4, i5⟩
        · exact i3 s hs hcs
    · have e : beF1 R n q a = q := by unfold beF1; rw [if_neg hc]
      rw [e]
      obtain ⟨i1, i2, i3⟩ := beF2_inv hd R n l hp2 q (fun h s hs => hq h s (List.mem_cons_of_mem _ hs))
      refine ⟨?_, i2, fun s hs hcs => ?_⟩
      · rcases i1 with h | ⟨h1, h2, h3⟩
        · exact .inl h
        · exact .inr ⟨h1, List.mem_cons_of_mem _ h2, h3⟩
      · rcases List.mem_cons.1 hs with rfl | hs
        · have hq1 : q.1 = true := by
            cases h : q.1
            · exact absurd ⟨hcs, .inl h⟩ hc
            · rfl
          obtain ⟨j1, j2⟩ := i2 hq1
          refine ⟨j1, leS_trans _ _ _ j2 ?_⟩
          have h1 : ¬ s.2.2 < q.2.2.2 := fun h => hc ⟨hcs, .inr h⟩
          have h2 := hq hq1 s List.mem_cons_self
          simp only [leS, Bool.or_eq_true, Bool.and_eq_true, decide_eq_true_eq]; omega
        · exact i3 s hs hcs
theorem best_same {S : List SiT} {R : RpM} (g : Good S R) (n : Int) : (byId S).foldl (beF1 R n) (false, (0, 0, 0)) = (someS (ableS S R n), hdS (ableS S R n)) := by
  obtain ⟨i1, _, i3⟩ := beF2_inv g.nd R n (byId S) (byId_sorted g.nd) (false, (0, 0, 0)) (fun h => by cases h)
  generalize hz : (byId S).foldl (beF1 R n) (false, (0, 0, 0)) = z at *
  cases hs : someS (ableS S R n) with
  | false =>
    have he : ableS S R n = [] := by cases h : ableS S R n with | nil => rfl | cons t l => rw [h] at hs; cases hs
    rcases i1 with h | ⟨h1, h2, h3⟩
    · rw [h, he]; rfl
    · have := able_mem.2 ⟨h2, h3⟩
      rw [he] at this; simp at this
  | true =>
    have h1 := able_hd hs
    obtain ⟨h2, h3⟩ := able_mem.1 h1
    obtain ⟨j1, j2⟩ := i3 _ h2 h3
    rcases i1 with h | ⟨k1, k2, k3⟩
    · rw [h] at j1; cases j1
    · obtain ⟨_, k5⟩ := able_head (able_mem.2 ⟨k2, k3⟩)
      have he : z.2 = hdS (ableS S R n) := by
        have e1 : z.2.1 = (hdS (ableS S R n)).1 := by
          simp only [leS, Bool.or_eq_true, Bool.and_eq_true, decide_eq_true_eq] at j2 k5
          omega
        have a1 := fnd_uniq g.nd ((mem_byId g.nd).1 k2)
        have a2 := fnd_uniq g.nd ((mem_byId g.nd).1 h2)
        rw [e1, a2] at a1
        injection a1 with a1; exact a1.symm
      exact Prod.ext j1 he
/-! ### The last report's end -/
def unF1 (R : RpM) (n m : Int) (s : SiT) : Int := if 0 < capR R s.1 n ∧ (rptR R s.1).2 > m then (rptR R s.1).2 else m
theorem un_filter (R : RpM) (n : Int) : ∀ (l : List SiT) (m : Int), l.foldl (unF1 R n) m = (l.filter (canS R n)).foldl (untF R) m
  | [], _ => rfl
  | a :: l, m => by
    rw [List.foldl_cons, un_filter R n l, List.filter_cons]
    by_cases hc : 0 < capR R a.1 n
    · have h1 : canS R n a = true := by simpa [canS] using hc
      rw [h1, if_pos rfl, List.foldl_cons]
      congr 1
      unfold unF1 untF
      by_cases h : (rptR R a.1).2 > m
      · rw [if_pos ⟨hc, h⟩, if_pos h]
      · rw [if_neg (fun h2 => h h2.2), if_neg h]
    · have h1 : canS R n a = false := by simpa [canS] using hc
      rw [h1]
      have : unF1 R n m a = m := by unfold unF1; rw [if_neg (fun h => hc h.1)]
      rw [this]; rfl
theorem unt_is (R : RpM) : ∀ (l : List SiT) (m : Int), l.foldl (untF R) m = m ∨ ∃ s ∈ l, l.foldl (untF R) m = (rptR R s.1).2
  | [], m => .inl rfl
  | a :: l, m => by
    rw [List.foldl_cons]
    rcases unt_is R l (untF R m a) with h | ⟨s, hs, h⟩
    · rw [h]
      unfold untF
      split
      · exact .inr ⟨a, List.mem_cons_self, rfl⟩
      · exact .inl rfl
    · exact .inr ⟨s, List.mem_cons_of_mem _ hs, h⟩
theorem unt_perm (R : RpM) {l l' : List SiT} (hp : ∀ s, s ∈ l ↔ s ∈ l') (m : Int) : l.foldl (untF R) m = l'.foldl (untF R) m := by
  obtain ⟨a1, a2⟩ := unt_fold R l m
  obtain ⟨b1, b2⟩ := unt_fold R l' m
  have h1 : l.foldl (untF R) m ≤ l'.foldl (untF R) m := by
    rcases unt_is R l m with h | ⟨s, hs, h⟩
    · rw [h]; exact b1
    · rw [h]; exact b2 s ((hp s).1 hs)
  have h2 : l'.foldl (untF R) m ≤ l.foldl (untF R) m := by
    rcases unt_is R l' m with h | ⟨s, hs, h⟩
    · rw [h]; exact a1
    · rw [h]; exact a2 s ((hp s).2 hs)
  omega
theorem until_same (S : List SiT) (R : RpM) (n : Int) : (byId S).foldl (unF1 R n) 0 = untS S R n := by
  rw [un_filter, untS]
  refine unt_perm R (fun s => ?_) 0
  unfold ableS ableL
  rw [(List.mergeSort_perm _ leS).mem_iff]
end Go.Proofs.Ytgconkbnokbinaa
