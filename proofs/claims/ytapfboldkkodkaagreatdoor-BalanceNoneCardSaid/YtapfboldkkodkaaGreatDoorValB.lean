/- append, on what a walk knows; all operations that make or turn memory. For any program. -/
import Derived.Test.YtapfboldkkodkaaGreatDoorValA
namespace Go.Proofs.YtapfboldkkodkaaGreatDoor
open Go.RowKit

section
variable {P : Program} {g : Gh} {T : VT} {w : World}

def isSl : Option TypeDesc → Bool
  | some (.slice _) => true
  | some .string => true
  | _ => false
def vappend (P : Program) (T : VT) (t tx : TypeId) (s x : TV) : Option (TV × VT) := match P.underlying t with
  | some (.slice e) => match P.info? e with
    | some i => match i.zero, vadopt T i.size s, srcOf i.size x with
      | some z, some (es, k, n, bn, T1), some es2 =>
        if z.cells.size = i.size ∧ 0 < i.size ∧ isSl (P.underlying tx) ∧ (es.length + es2.length) * (i.bytes + 1) ≤ 140737488355328 then
          some (.vec i.size (es ++ es2) (.tail k (n + es2.length)), { T1 with tails := T1.tails.set k (n + es2.length, i.size, bn) }) else none
      | _, _, _ => none
    | none => none
  | _ => none
theorem isSl_ok {tx : TypeId} (h : isSl (P.underlying tx) = true) : (∃ e', P.underlying tx = some (.slice e')) ∨ P.underlying tx = some .string := by
  unfold isSl at h
  split at h
  · exact .inl ⟨_, by assumption⟩
  · exact .inr (by assumption)
  · cases h
theorem tails_set_self {l : List (Nat × Nat × Bool)} {k : Nat} {p : Nat × Nat × Bool} (h : l[k]? = some p) : l.set k p = l := by
  apply List.ext_getElem?
  intro j
  rw [List.getElem?_set]
  split
  · rename_i hj; subst hj; rw [if_pos (List.getElem?_eq_some_iff.1 h).1, h]
  · rfl
theorem setTail_at (g : Gh) (k : Nat) (x : Tl) : (g.setTail k x).tail k = some x := by simp [Gh.setTail]
/-- nothing is appended -/
theorem append_none {t tx ty e : TypeId} {i : TypeInfo} (ht : P.underlying t = some (.slice e)) (hi : P.info? e = some i) {a : Option Addr} {n c : Nat} {x : Value} {news : List Value} (hs : Src P i.size tx x 0 news w) (hn : n ≤ c) :
    (Builtin.append_ #[t, tx] ty #[.slice a n c, x]).run P w = .ok (.slice a n c) w := by
  have h0 : news = [] := List.eq_nil_of_length_eq_zero (by simpa using hs.newsLen)
  subst h0
  have hc := hs.cells
  rcases hs.kind with ⟨e', hk⟩ | hk <;> cases a <;> simp [Builtin.append_, run_underlying ht, run_underlying hk, run_size hi, hs.len, hn, hc, storeCells]
theorem append_room {t tx ty e : TypeId} {i : TypeInfo} (r : RW g T w) (ht : P.underlying t = some (.slice e)) (hi : P.info? e = some i) {k n : Nat} {bn : Bool} {es es2 : List (List TV)} {b o c : Nat} {us : List Value} {x : Value} {news : List Value}
    (hp : T.tails[k]? = some (n, i.size, bn)) (h1 : es.length ≤ c) (h2 : c ≤ maxLen) (h3 : ∀ e ∈ es, e.length = i.size) (h4 : TokOk g (.tail k n) i.size es.length b o c) (h5 : VRs g w es.flatten us)
    (h6 : ∀ j, j < es.flatten.length → g.st b (o + j)) (h7 : ∀ (j : Nat) v, us[j]? = some v → w.cell? ⟨b, o + j, none⟩ = some v) (h8 : ∀ u ∈ us, u.oneCell' = true)
    (hs : Src P i.size tx x es2.length news w) (k2 : VRs g w es2.flatten news) (z2 : ∀ e ∈ es2, e.length = i.size) (hpos : 0 < es2.length) (hsz0 : 0 < i.size) (hroom : es.length + es2.length ≤ c) :
    Does P g T w (Builtin.append_ #[t, tx] ty #[.slice (some ⟨b, o, none⟩) es.length c, x]) (.vec i.size (es ++ es2) (.tail k (n + es2.length))) { T with tails := T.tails.set k (n + es2.length, i.size, bn) } := by
  obtain ⟨y, hy, he, hsz, hh, hoo⟩ := h4
  obtain ⟨y', q1, q2, q3, q4⟩ := r.tl k _ hp
  rw [hy] at q1; injection q1 with q1; subst q1
  simp only at q2 q3
  obtain ⟨q3, q5⟩ := q3
  obtain ⟨b1, b2, b3⟩ := hh q2 (by omega)
  have hm1 : (es.length + es2.length) * i.size ≤ c * i.size := Nat.mul_le_mul_right _ hroom
  rw [Nat.add_mul] at hm1
  have hnl := hs.newsLen
  subst b1
  have hmz : c * y.size = c * i.size := by rw [q3]
  have hzn : ∀ j, j < news.length → y.in y.b (o + es.length * i.size + j) := fun j hj => ⟨rfl, by omega, by omega⟩
  have hrun := run_append_room_src (P := P) w t tx ty e i ht hi y.b o es.length c x es2.length news hs hroom (fun j hj => (q4 _ _ (hzn j hj)).1) (fun j hj => (q4 _ _ (hzn j hj)).2.1)
  have hfl := flatten_len h3
  have hfl2 := flatten_len z2
  have hnp : 0 < news.length := by rw [hnl]; exact Nat.mul_pos hpos hsz0
  obtain ⟨r1, e1, sm⟩ := zone_step r hp hy news (by omega) hnp
  rw [b2] at r1 e1 sm
  have hlt : k < T.tails.length := (List.getElem?_eq_some_iff.1 hp).1
  have hcn := World.cell?_setCells_in y.b news (o + es.length * i.size) w (fun j hj => (q4 _ _ (hzn j hj)).1)
  obtain ⟨_, q1', _, _, q4'⟩ := r1.tl k _ hp
  rw [hy] at q1'; injection q1' with q1'; subst q1'
  have hsub : ∀ b' o', ({ y with f := y.f + news.length, e := n + es2.length } : Tl).in b' o' → y.in b' o' := fun b' o' h => ⟨h.1, by have := h.2.1; simp at this; omega, h.2.2⟩
  have hy1 : y.own = true → 0 < y.e := fun a1 => by
    rcases Nat.eq_zero_or_pos y.e with h0 | h0
    · have := (r.own0 k y hy (.inl a1) h0).1; omega
    · exact h0
  have hsubh : ∀ b', ({ y with f := y.f + news.length, e := n + es2.length } : Tl).has b' → y.has b' := fun b' h => by
    rcases h with ⟨o', h⟩ | ⟨a1, _, a2⟩
    · exact .inl ⟨o', hsub b' o' h⟩
    · exact .inr ⟨a1, hy1 a1, a2⟩
  have r2 := r1.setTail (T' := { T with tails := T.tails.set k (n + es2.length, i.size, bn) }) (k := k) (x := { y with f := y.f + news.length, e := n + es2.length }) rfl (.inr ⟨by simp [q3, q5], hlt⟩) (fun b' o' h => q4' b' o' (hsub b' o' h))
    (fun j oj b h1 h2 h3 h4 => r1.tobj j oj b k y h1 h2 h3 hy (hsubh b h4))
    (fun j z b hj hz' h1 h2 => hj (r1.tinj j k z y b hz' hy h2 (hsubh b h1)))
    (fun z hz' => by rw [hy] at hz'; injection hz' with hz'; subst hz'; simp; omega) (fun h => by rw [hy] at h; cases h)
    (fun a1 _ => by
      have hy0 : 0 < y.e := by
        rcases Nat.eq_zero_or_pos y.e with h0 | h0
        · have := (r.own0 k y hy (.inl a1) h0).1; omega
        · exact h0
      obtain ⟨d1, d2, d3, d4⟩ := r1.own k y hy a1 hy0
      refine ⟨d1, ?_, by simp only; omega, d4⟩
      simp only
      rw [Nat.add_mul, ← q2, d2, hnl, q3])
    (fun a1 a2 => by simp only at a2; omega) (r1.tlo k y hy)
  have e2 : Evo g (w.setCells y.b (o + es.length * i.size) news) (g.setTail k { y with f := y.f + news.length, e := n + es2.length }) (w.setCells y.b (o + es.length * i.size) news) :=
    Evo.setTail (fun z hz' => by rw [hy] at hz'; injection hz' with hz'; subst hz'; simp; omega) (fun h => by rw [hy] at h; cases h)
  have hin0 := hzn 0 hnp
  have r3 := r2.addSt (b := y.b) (S := fun p => y.f ≤ p ∧ p < y.f + news.length) (q4 _ _ hin0).2.2.2 (fun id oo h hl hb => r.tobj id oo y.b k y h hl hb hy (.inl ⟨_, hin0⟩))
    (fun j z p hz' hp' hin => by
      by_cases hj : j = k
      · subst hj; simp [Gh.setTail] at hz'; subst hz'; have := hin.2.1; simp at this; omega
      · have hz2 : g.tail j = some z := by simpa [Gh.setTail, hj] using hz'
        exact hj (r.tinj j k z y _ hz2 hy (.inl ⟨_, hin⟩) (.inl ⟨p, rfl, hp'.1, by omega⟩)))
    (fun p hp' => by
      have := hcn (p - (o + es.length * i.size)) (by omega)
      rw [show o + es.length * i.size + (p - (o + es.length * i.size)) = p by omega] at this
      rw [this]; rfl)
  have e3 := (e1.trans e2).trans (Evo.addSt (w := w.setCells y.b (o + es.length * i.size) news) (b := y.b) (S := fun p => y.f ≤ p ∧ p < y.f + news.length) (show ¬ (g.setTail k _).fr y.b from (q4 _ _ hin0).2.2.2))
  refine ⟨_, _, _, hrun, ?_, e3, r3, sm⟩
  have hlen : us.length = es.length * i.size := by rw [h5.1, hfl]
  refine .mk_vec (us := us ++ news) (by simp) hroom h2 (fun e he => by rcases List.mem_append.1 he with he | he; exact h3 e he; exact z2 e he)
    ⟨_, setTail_at _ k _, Nat.le_refl _, hsz, fun _ _ => ⟨rfl, ?_, ?_⟩, fun _ ho => ?_⟩ (by rw [List.flatten_append]; exact (h5.app k2).mono e3) (fun j hj => ?_) (fun j v hv => ?_) (fun u hu => ?_)
  · simp only [Nat.add_mul]; omega
  · exact b3
  · obtain ⟨f1, f2⟩ := hoo q2 ho
    refine ⟨by simp only; omega, fun hn _ => ?_⟩
    simp only at hn
    have hy0 : 0 < y.e := by
      rcases Nat.eq_zero_or_pos y.e with h0 | h0
      · have := (r.own0 k y hy (.inr ho) h0).1; omega
      · exact h0
    obtain ⟨g0, _, g2, g3⟩ := f2 (by omega) (by omega)
    exact ⟨g0, rfl, g2, g3⟩
  · rw [List.flatten_append, List.length_append, hfl, hfl2] at hj
    rcases Nat.lt_or_ge j (es.length * i.size) with h | h
    · exact (e3.st _ _ (h6 j (by rw [hfl]; exact h))).1
    · exact .inr ⟨rfl, by omega, by omega⟩
  · rcases Nat.lt_or_ge j us.length with h | h
    · rw [List.getElem?_append_left h] at hv
      rw [(e3.st _ _ (h6 j (by rw [hfl]; omega))).2]; exact h7 j v hv
    · rw [List.getElem?_append_right h] at hv
      have h9 := (List.getElem?_eq_some_iff.1 hv)
      have := hcn (j - us.length) h9.1
      rw [h9.2] at this
      rw [← this]; congr 2; omega
  · rcases List.mem_append.1 hu with hu | hu
    · exact h8 u hu
    · exact hs.one u hu
theorem append_grow {t tx ty e : TypeId} {i : TypeInfo} {z : Value} (r : RW g T w) (ht : P.underlying t = some (.slice e)) (hi : P.info? e = some i) (hz : i.zero = some z) (hzs : z.cells.size = i.size) {k n : Nat} {bn : Bool} {es es2 : List (List TV)} {a : Option Addr} {c : Nat} {us : List Value} {x : Value} {news : List Value}
    (hp : T.tails[k]? = some (n, i.size, bn)) (h3 : ∀ e ∈ es, e.length = i.size) (h5 : VRs g w es.flatten us) (h8 : ∀ u ∈ us, u.oneCell' = true)
    (hold : (Builtin.firstCells i.size es.length (.slice a es.length c)).run P w.drew = .ok us.toArray w.drew)
    (hoo : ∀ y, g.tail k = some y → y.e = n → y.born = true → es.length ≤ n ∧ (es.length = n → 0 < es.length → y.own = true))
    (hs : Src P i.size tx x es2.length news w) (k2 : VRs g w es2.flatten news) (z2 : ∀ e ∈ es2, e.length = i.size) (hpos : 0 < es2.length) (hroom : c < es.length + es2.length) (hb : (es.length + es2.length) * (i.bytes + 1) ≤ 140737488355328) :
    Does P g T w (Builtin.append_ #[t, tx] ty #[.slice a es.length c, x]) (.vec i.size (es ++ es2) (.tail k (n + es2.length))) { T with tails := T.tails.set k (n + es2.length, i.size, bn) } := by
  obtain ⟨y, hy, q2, q3, q4⟩ := r.tl k _ hp
  simp only at q2 q3
  obtain ⟨q3, q5⟩ := q3
  rw [Nat.mul_add, Nat.mul_one] at hb
  have hrun := run_append_grow_src (P := P) w t tx ty e i z ht hi hz a es.length c us hold x es2.length news hs hroom (by omega) (growslice_fits (bytes := i.bytes) hroom (by omega))
  have hge := grownCap_ge w (es.length + es2.length) c e
  have hle := grownCap_le_maxLen w (es.length + es2.length) c e (by unfold maxLen; omega)
  generalize hcap : grownCap w (es.length + es2.length) c e = cap at hrun hge hle
  have hfl := flatten_len h3
  have hfl2 := flatten_len z2
  have hnl := hs.newsLen
  have hul : us.length = es.length * i.size := by rw [h5.1, hfl]
  have hgr : Gr w (w.drew.alloc (.cells ((us ++ news).toArray ++ Builtin.zeroCells z.cells (cap - (es.length + es2.length))) e)) := (Gr.refl w).drew.alloc _
  have hnew : (w.drew.alloc (.cells ((us ++ news).toArray ++ Builtin.zeroCells z.cells (cap - (es.length + es2.length))) e)).heap[w.heap.size]? = some (.cells ((us ++ news).toArray ++ Builtin.zeroCells z.cells (cap - (es.length + es2.length))) e) := heap_alloc_new w.drew _
  have hxs : ((us ++ news).toArray ++ Builtin.zeroCells z.cells (cap - (es.length + es2.length))).size = cap * i.size := by
    simp only [Array.size_append, List.size_toArray, List.length_append, size_zeroCells, hul, hnl, hzs, Nat.sub_mul, Nat.add_mul]
    have : (es.length + es2.length) * i.size ≤ cap * i.size := Nat.mul_le_mul_right _ hge
    rw [Nat.add_mul] at this
    omega
  have hpre : ∀ (j : Nat) v, (us ++ news)[j]? = some v → ((us ++ news).toArray ++ Builtin.zeroCells z.cells (cap - (es.length + es2.length)))[j]? = some v := fun j v hv => by
    have hj := (List.getElem?_eq_some_iff.1 hv).1
    rw [Array.getElem?_append_left (by simpa using hj)]
    simpa using hv
  generalize ((us ++ news).toArray ++ Builtin.zeroCells z.cells (cap - (es.length + es2.length))) = xs at *
  generalize w.drew.alloc (.cells xs e) = w' at *
  have r1 := r.gr hgr
  have e1 := Evo.of_gr r hgr
  have f := r.fresh (Nat.le_refl w.heap.size)
  have hlt : k < T.tails.length := (List.getElem?_eq_some_iff.1 hp).1
  have hcell : ∀ j, w'.cell? ⟨w.heap.size, j, none⟩ = xs[j]? := fun j => by simp [World.cell?, hnew]
  have hfrz : ∀ j, w'.frozen? ⟨w.heap.size, j, none⟩ = false := fun j => by simp [World.frozen?, hnew]
  have hgrow : ∀ z', g.tail k = some z' → z'.e < n + es2.length ∧ i.size = z'.size ∧ y.lo = z'.lo := fun z' hz' => by rw [hy] at hz'; injection hz' with hz'; subst hz'; exact ⟨by omega, q3.symm, rfl⟩
  have r2 := r1.setTail (T' := { T with tails := T.tails.set k (n + es2.length, i.size, bn) }) (k := k) (x := ⟨w.heap.size, (es.length + es2.length) * i.size, cap * i.size, i.size, n + es2.length, e, y.lo, y.own && decide (es.length = n), y.born⟩) rfl (.inr ⟨by simp [q5], hlt⟩)
    (fun b o h => by
      obtain ⟨rfl, h1, h2⟩ := h
      simp only at h1 h2
      refine ⟨?_, hfrz o, f.st o, f.fr⟩
      rw [hcell, Array.getElem?_eq_getElem (by omega)]; rfl)
    (fun j oj b h1 h2 h3 h4 => f.obj j oj h1 h2 (by
      rw [h3]
      rcases h4 with ⟨o, h4⟩ | ⟨_, _, h4⟩
      · exact congrArg some h4.1.symm
      · exact congrArg some h4.symm))
    (fun j z' b hj hz' h1 h2 => by
      have : b = w.heap.size := by
        rcases h1 with ⟨o, h1⟩ | ⟨_, _, h1⟩
        · exact h1.1.symm
        · exact h1.symm
      subst this
      exact f.tl j z' hz' h2) hgrow (fun h => by rw [hy] at h; cases h)
    (fun a1 _ => by
      simp only [Bool.and_eq_true, decide_eq_true_eq] at a1
      refine ⟨⟨xs, hnew, hxs⟩, by simp only [a1.2], Nat.mul_le_mul_right _ hge, r.tlo k y hy, f.fr⟩)
    (fun _ a2 => by simp only at a2; omega) (Nat.le_trans (r.tlo k y hy) hgr.size)
  have r3 := r2.addSt (b := w.heap.size) (S := fun p => p < (es.length + es2.length) * i.size) f.fr (fun id oo h hl => f.obj id oo h hl)
    (fun j z' p hz' hp' hin => by
      by_cases hj : j = k
      · subst hj; simp [Gh.setTail] at hz'; subst hz'; have := hin.2.1; simp at this; omega
      · have hz2 : g.tail j = some z' := by simpa [Gh.setTail, hj] using hz'
        exact f.tl j z' hz2 (.inl ⟨p, hin⟩))
    (fun p hp' => by
      have : (es.length + es2.length) * i.size ≤ cap * i.size := Nat.mul_le_mul_right _ hge
      rw [hcell, Array.getElem?_eq_getElem (by omega)]; rfl)
  have e3 := (e1.trans (Evo.setTail (w := w') (x := ⟨w.heap.size, (es.length + es2.length) * i.size, cap * i.size, i.size, n + es2.length, e, y.lo, y.own && decide (es.length = n), y.born⟩) hgrow (fun h => by rw [hy] at h; cases h))).trans
    (Evo.addSt (w := w') (b := w.heap.size) (S := fun p => p < (es.length + es2.length) * i.size) (show ¬ (g.setTail k _).fr w.heap.size from f.fr))
  refine ⟨_, _, _, hrun, ?_, e3, r3, Same.of_gr r hgr⟩
  refine .mk_vec (us := us ++ news) (by simp) hge hle (fun e he => by rcases List.mem_append.1 he with he | he; exact h3 e he; exact z2 e he)
    ⟨_, setTail_at _ k _, Nat.le_refl _, rfl, fun _ _ => ⟨rfl, by simp, by simp⟩, fun _ ho => by
      obtain ⟨f1, f2⟩ := hoo y hy q2 ho
      refine ⟨by simp only; omega, fun hn' _ => ⟨?_, rfl, rfl, rfl⟩⟩
      simp only at hn'
      have hel : es.length = n := by omega
      simp only [Bool.and_eq_true, decide_eq_true_eq]
      refine ⟨?_, hel⟩
      rcases Nat.eq_zero_or_pos es.length with h0 | h0
      · exact (r.own0 k y hy (.inr ho) (by omega)).2 ho
      · exact f2 hel h0⟩ (by rw [List.flatten_append]; exact (h5.app k2).mono e3) (fun j hj => ?_) (fun j v hv => ?_) (fun u hu => ?_)
  · rw [List.flatten_append, List.length_append, hfl, hfl2] at hj
    exact .inr ⟨rfl, by rw [Nat.zero_add, Nat.add_mul]; exact hj⟩
  · rw [Nat.zero_add, hcell]; exact hpre j v hv
  · rcases List.mem_append.1 hu with hu | hu
    · exact h8 u hu
    · exact hs.one u hu
theorem vappend_ok (r : RW g T w) {t tx ty : TypeId} {s x y : TV} {us ux : Value} {T' : VT} (h : vappend P T t tx s x = some (y, T')) (hs : VR g w s us) (hx : VR g w x ux) : Does P g T w (Builtin.append_ #[t, tx] ty #[us, ux]) y T' := by
  unfold vappend at h
  split at h
  · rename_i e ht
    split at h
    · rename_i i hi
      split at h
      · rename_i z es k n bn T1 es2 hz ha hsrc
        split at h
        · rename_i hh
          obtain ⟨hzs, hsz0, hsl, hb⟩ := hh
          injection h with h; injection h with e1 e2; subst e1 e2
          obtain ⟨g1, e1, r1, k1, hp, hob⟩ := vadopt_ok r ha hs
          obtain ⟨news, src, k2, z2⟩ := srcOf_ok hsrc (hx.mono e1) (isSl_ok hsl)
          suffices hd : Does P g1 T1 w (Builtin.append_ #[t, tx] ty #[us, ux]) (.vec i.size (es ++ es2) (.tail k (n + es2.length))) { T1 with tails := T1.tails.set k (n + es2.length, i.size, bn) } by
            obtain ⟨v, g', w', h1, h2, h3, h4, h5⟩ := hd
            exact ⟨v, g', w', h1, h2, e1.trans h3, h4, ⟨fun b o h => h5.st b o (e1.st b o h).1, fun id o b h hl hb => h5.obj id o b (by rw [hob]; exact h) hl (e1.obj id b hb)⟩⟩
          rcases Nat.eq_zero_or_pos es2.length with h0 | hpos
          · have : es2 = [] := List.eq_nil_of_length_eq_zero h0
            subst this
            have eT : T1.tails.set k (n + 0, i.size, bn) = T1.tails := tails_set_self hp
            simp only [List.append_nil, List.length_nil, Nat.add_zero] at eT ⊢
            rw [eT]
            rcases k1.vec_inv with ⟨rfl, rfl, _⟩ | ⟨b, o, c, vs, rfl, a1, _⟩
            · exact ⟨_, g1, w, append_none ht hi src (Nat.le_refl _), k1, Evo.refl _ _, r1, Same.refl _ _ _⟩
            · exact ⟨_, g1, w, append_none ht hi src a1, k1, Evo.refl _ _, r1, Same.refl _ _ _⟩
          · rcases k1.vec_inv with ⟨rfl, rfl, _⟩ | ⟨b, o, c, vs, rfl, a1, a2, a3, a4, a5, a6, a7, a8⟩
            · exact append_grow (es := []) (us := []) r1 ht hi hz hzs hp (by simp) (by simpa using VRs.nil _ _) (by simp) (run_firstCells_none w.drew i.size 0 0 0) (fun _ _ _ _ => ⟨Nat.zero_le _, fun _ h => by simp at h⟩) src k2 z2 hpos (by simpa using hpos) hb
            · rcases Nat.lt_or_ge c (es.length + es2.length) with hc | hc
              · refine append_grow r1 ht hi hz hzs hp a3 a5 a8 ?_ (fun y hy h1 h2 => by
                  obtain ⟨x', d1, _, _, _, d5⟩ := a4
                  rw [hy] at d1; injection d1 with d1; subst d1
                  obtain ⟨d6, d7⟩ := d5 h1 h2
                  exact ⟨by omega, fun d8 d9 => (d7 (by omega) d9).1⟩) src k2 z2 hpos hc hb
                have hl : vs.length = es.length * i.size := by rw [a5.1, flatten_len a3]
                have := run_loadCells_list (P := P) w.drew ⟨b, o, none⟩ vs (fun j v hv => by rw [Addr.add_none]; exact a7 j v hv)
                rw [hl] at this
                simpa [Builtin.firstCells] using this
              · exact append_room r1 ht hi hp a1 a2 a3 a4 a5 a6 a7 a8 src k2 z2 hpos hsz0 hc
        · cases h
      · cases h
    · cases h
  · cases h
end
end Go.Proofs.YtapfboldkkodkaaGreatDoor
