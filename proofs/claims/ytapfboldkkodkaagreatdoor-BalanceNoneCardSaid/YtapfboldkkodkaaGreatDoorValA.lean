/- Slices that are made: literals, append; all operations that make or turn memory. For any program. -/
import Derived.Test.YtapfboldkkodkaaGreatDoorValO
import Derived.Deep.Upon
namespace Go.Proofs.YtapfboldkkodkaaGreatDoor
open Go.RowKit

section
variable {P : Program} {g : Gh} {T : VT} {w : World}

def chunks (size : Nat) : Nat → List TV → List (List TV)
  | 0, _ => []
  | n + 1, cs => cs.take size :: chunks size n (cs.drop size)
theorem chunks_len (size : Nat) : ∀ (n : Nat) (cs : List TV), (chunks size n cs).length = n
  | 0, _ => rfl
  | n + 1, cs => by simp [chunks, chunks_len size n]
theorem chunks_ok (size : Nat) : ∀ (n : Nat) (cs : List TV), cs.length = n * size → (∀ e ∈ chunks size n cs, e.length = size) ∧ (chunks size n cs).flatten = cs
  | 0, cs, h => by simp at h; subst h; simp [chunks]
  | n + 1, cs, h => by
    rw [Nat.succ_mul] at h
    obtain ⟨h1, h2⟩ := chunks_ok size n (cs.drop size) (by simp; omega)
    refine ⟨fun e he => ?_, by simp [chunks, h2]⟩
    simp only [chunks, List.mem_cons] at he
    rcases he with rfl | he
    · simp; omega
    · exact h1 e he
/-- n elements that are zero -/
def zeros (z : Array Value) (n : Nat) : List Value := (List.range n).map (z[· % z.size]!)
def vbuildSlice (P : Program) (t : TypeId) (len : Nat) (ps : List (Nat × TV)) : Option TV := match P.underlying t with
  | some (.slice e) => match P.info? e with
    | some i => match i.zero with
      | some z => match vfill (fun j => some (j * i.size, i.size)) ((zeros z.cells (len * i.size)).map .val) ps with
        | some cs => if len * i.size ≤ 16777216 ∧ len ≤ 16777216 ∧ cs.length = len * i.size ∧ cs.all isCell then some (.vec i.size (chunks i.size len cs) .full) else none
        | none => none
      | none => none
    | none => none
  | _ => none
theorem vbuildSlice_ok (r : RW g T w) {t : TypeId} {len : Nat} {ps : List (Nat × TV)} {qs : Array (Nat × Value)} {y : TV} (h : vbuildSlice P t len ps = some y) (hl : qs.toList.length = ps.length)
    (hr : ∀ (j : Nat) p q, ps[j]? = some p → qs.toList[j]? = some q → q.1 = p.1 ∧ VR g w p.2 q.2) : Does P g T w (Instr.buildSlice t len qs) y T := by
  unfold vbuildSlice at h
  split at h
  · rename_i e hu
    split at h
    · rename_i i hi
      split at h
      · rename_i z hz
        split at h
        · rename_i cs hf
          split at h
          · rename_i hh
            obtain ⟨h1, h1', h2, h3⟩ := hh
            injection h with h; subst h
            obtain ⟨us', h4, h5⟩ := vfill_ok (us := (zeros z.cells (len * i.size)).toArray) (qs := qs.toList) hf (VRs.vals g w _) hl hr
            obtain ⟨c1, c2⟩ := chunks_ok i.size len cs h2
            have hc := chunks_len i.size len cs
            obtain ⟨g', r', e', hst, htl⟩ := r.newSt us'.toList e
            have ho := cells_one h3 h5
            refine ⟨.slice (some ⟨w.heap.size, 0, none⟩) len len, g', w.alloc (.cells us' e), ?_, ?_, by simpa using e', by simpa using r', Same.of_gr r ((Gr.refl w).alloc _)⟩
            · have n1 : ¬ (len * i.size > 2 ^ 24) := by omega
              by_cases h0 : len * i.size = 0
              · have h4' : Instr.fill (fun j => some (j * i.size, i.size)) #[] qs.toList = some us' := by rw [h0] at h4; exact h4
                simp only [Instr.buildSlice, Sem.run_bind, run_underlying hu, Result.andThen_ok, run_size hi, h0, if_true]
                have e0 : Array.range 0 = #[] := rfl
                simp [h4', newRow, e0]
              · have n3 : (Array.range (len * i.size)).map (z.cells[· % z.cells.size]!) = (zeros z.cells (len * i.size)).toArray := by
                  apply Array.ext'
                  simp [zeros, Array.toList_map, Array.toList_range]
                simp only [Instr.buildSlice, Sem.run_bind, run_underlying hu, Result.andThen_ok, run_size hi, n1, if_false, Sem.run_pure, h0, zeroValue, run_info hi, hz, n3, h4]
                simp [newRow]
            · have h6 := h5.mono e'
              simp only [Array.toArray_toList] at h6
              refine .mk_vec (us := us'.toList) hc.symm (Nat.le_refl _) (by unfold maxLen; omega) c1 rfl (by rw [c2]; exact h6) (fun j hj => ?_) (fun j u hu => ?_) ho
              · rw [c2] at hj; rw [Nat.zero_add]; exact hst j (by rw [h5.1]; exact hj)
              · rw [Nat.zero_add]
                have := cell_new w us'.toList e j u hu
                simpa using this
          · cases h
        · cases h
      · cases h
    · cases h
  · cases h

/-! #### append -/
def srcOf (size : Nat) : TV → Option (List (List TV))
  | .vec sz es _ => if sz = size then some es else none
  | .val (.slice none 0 _) => some []
  | .val (.string s) => if size = 1 then some (s.data.toList.map fun b => [.val (.int .u8 b.toNat)]) else none
  | _ => none
theorem srcOf_ok {size : Nat} {tx : TypeId} {x : TV} {u : Value} {es : List (List TV)} (h : srcOf size x = some es) (hx : VR g w x u) (hk : (∃ e', P.underlying tx = some (.slice e')) ∨ P.underlying tx = some .string) :
    ∃ news, Src P size tx u es.length news w ∧ VRs g w es.flatten news ∧ ∀ e ∈ es, e.length = size := by
  unfold srcOf at h
  split at h
  · rename_i sz es' tok
    split at h
    · rename_i hsz
      injection h with h; subst h hsz
      rcases hx.vec_inv with ⟨rfl, rfl, _⟩ | ⟨b, o, c, us, rfl, h1, h2, h3, h4, h5, h6, h7, h8⟩
      · exact ⟨[], ⟨hk, fun _ => rfl, run_firstCells_none w sz 0 0 0, run_firstCells_none w.drew sz 0 0 0, by simp, fun _ h => by cases h⟩, by simpa using VRs.nil g w, by simp⟩
      · have hl : us.length = es'.length * sz := by rw [h5.1, flatten_len h3]
        have hc : ∀ w' : World, (∀ a, w'.cell? a = w.cell? a) → (Builtin.firstCells sz es'.length (.slice (some ⟨b, o, none⟩) es'.length c)).run P w' = .ok us.toArray w' := fun w' hw => by
          have := run_loadCells_list (P := P) w' ⟨b, o, none⟩ us (fun j v hv => by rw [Addr.add_none, hw]; exact h7 j v hv)
          rw [hl] at this
          simpa [Builtin.firstCells] using this
        exact ⟨us, ⟨hk, fun _ => rfl, hc w (fun _ => rfl), hc w.drew (fun _ => rfl), hl, h8⟩, h5, h3⟩
    · cases h
  · injection h with h; subst h
    rw [hx.val_inv]
    exact ⟨[], ⟨hk, fun _ => rfl, run_firstCells_none w size 0 0 _, run_firstCells_none w.drew size 0 0 _, by simp, fun _ h => by cases h⟩, by simpa using VRs.nil g w, by simp⟩
  · rename_i s
    split at h
    · rename_i hsz
      injection h with h; subst h hsz
      rw [hx.val_inv]
      have hl : (s.data.toList.map fun b => [TV.val (.int .u8 b.toNat)]).length = s.size := by simp
      rw [hl]
      refine ⟨byteCells s, ⟨hk, fun _ => rfl, firstCells_string s w, firstCells_string s w.drew, by simp [byteCells], fun u hu => ?_⟩, ?_, ?_⟩
      · obtain ⟨_, _, rfl⟩ := List.mem_map.1 hu; rfl
      · have e1 : (s.data.toList.map fun b => [TV.val (.int .u8 b.toNat)]).flatten = (byteCells s).map .val := by
          simp only [byteCells, List.map_map]
          induction s.data.toList with
          | nil => rfl
          | cons a l ih => simp only [List.map_cons, List.flatten_cons, ih]; rfl
        rw [e1]
        exact VRs.vals g w _
      · simp
    · cases h
  · cases h

/-- a slice that may be appended to, with its tail -/
def vadopt (T : VT) (size : Nat) : TV → Option (List (List TV) × Nat × Nat × Bool × VT)
  | .val (.slice none 0 0) => some ([], T.tails.length, 0, true, { T with tails := T.tails ++ [(0, size, true)] })
  | .vec sz es .full => if sz = size then some (es, T.tails.length, 0, false, { T with tails := T.tails ++ [(0, size, false)] }) else none
  | .vec sz es (.tail k e) => match T.tails[k]? with
    | some (e', s', bn) => if sz = size ∧ e' = e ∧ s' = size then some (es, k, e, bn, T) else none
    | none => none
  | _ => none
theorem RW.newTail (r : RW g T w) (size : Nat) (own : Bool) : ∃ g', Evo g w g' w ∧ RW g' { T with tails := T.tails ++ [(0, size, own)] } w ∧ g'.tail T.tails.length = some ⟨0, 0, 0, size, 0, 0, w.heap.size, own, own⟩ := by
  have hin : ∀ b o, ¬ (⟨0, 0, 0, size, 0, 0, w.heap.size, own, own⟩ : Tl).in b o := fun b o h => by have := h.2.2; simp at this
  have hha : ∀ b, ¬ (⟨0, 0, 0, size, 0, 0, w.heap.size, own, own⟩ : Tl).has b := fun b h => by
    rcases h with ⟨o, h⟩ | ⟨_, h, _⟩
    · exact hin b o h
    · simp at h
  have hn : g.tail T.tails.length = none := r.tout _ (Nat.le_refl _)
  exact ⟨_, Evo.setTail (fun y hy => by rw [hn] at hy; cases hy) (fun _ => Nat.le_refl _), r.setTail (x := ⟨0, 0, 0, size, 0, 0, w.heap.size, own, own⟩) rfl (.inl ⟨rfl, rfl⟩) (fun b o h => absurd h (hin b o)) (fun i oi b _ _ _ h => hha b h) (fun j y b _ _ h => absurd h (hha b))
    (fun y hy => by rw [hn] at hy; cases hy) (fun _ => Nat.le_refl _) (fun _ h => absurd h (by simp)) (fun _ _ => ⟨Nat.le_refl _, fun h => h⟩) (Nat.le_refl _), by simp [Gh.setTail]⟩
theorem vadopt_ok (r : RW g T w) {size k e : Nat} {bn : Bool} {s : TV} {u : Value} {es : List (List TV)} {T1 : VT} (h : vadopt T size s = some (es, k, e, bn, T1)) (hs : VR g w s u) :
    ∃ g', Evo g w g' w ∧ RW g' T1 w ∧ VR g' w (.vec size es (.tail k e)) u ∧ T1.tails[k]? = some (e, size, bn) ∧ T1.objs = T.objs := by
  unfold vadopt at h
  split at h
  · injection h with h; injection h with e1 h; injection h with e2 h; injection h with e3 h; injection h with e5 e4; subst e1 e2 e3 e4 e5
    obtain ⟨g', h1, h2, h3⟩ := r.newTail size true
    rw [hs.val_inv]
    exact ⟨g', h1, h2, .nil ⟨_, h3, Nat.le_refl _, rfl⟩, by simp, rfl⟩
  · split at h
    · rename_i sz es' hsz
      subst hsz
      injection h with h; injection h with e1 h; injection h with e2 h; injection h with e3 h; injection h with e5 e4; subst e1 e2 e3 e4 e5
      obtain ⟨g', h1, h2, h3⟩ := r.newTail sz false
      refine ⟨g', h1, h2, ?_, by simp, rfl⟩
      rcases (hs.mono h1).vec_inv with ⟨rfl, rfl, _⟩ | ⟨b, o, c, us, rfl, a1, a2, a3, a4, a5, a6, a7, a8⟩
      · exact .nil ⟨_, h3, Nat.le_refl _, rfl⟩
      · exact .mk_vec rfl a1 a2 a3 ⟨_, h3, Nat.le_refl _, rfl, fun _ hlt => by simp only [TokOk] at a4; omega, fun _ h => by cases h⟩ a5 a6 a7 a8
    · cases h
  · split at h
    · rename_i e'' s' bn' hk
      split at h
      · rename_i hh
        obtain ⟨rfl, rfl, rfl⟩ := hh
        injection h with h; injection h with e1 h; injection h with e2 h; injection h with e3 h; injection h with e5 e4; subst e1 e2 e3 e4 e5
        exact ⟨g, Evo.refl g w, r, hs, hk, rfl⟩
      · cases h
    · cases h
  · cases h

theorem size_setCells (b : Nat) : ∀ (vs : List Value) (o : Nat) (w : World), (w.setCells b o vs).heap.size = w.heap.size
  | [], _, _ => rfl
  | v :: r, o, w => by rw [World.setCells, size_setCells b r]; simp [World.setCell]
theorem tape_setCells (b : Nat) : ∀ (vs : List Value) (o : Nat) (w : World), (w.setCells b o vs).tape = w.tape
  | [], _, _ => rfl
  | v :: r, o, w => by rw [World.setCells, tape_setCells b r]; rfl
theorem heap_setCells (b : Nat) : ∀ (vs : List Value) (o : Nat) (w : World) (cur : Array Value) (t : TypeId) (fz : Nat × Nat), w.heap[b]? = some (.cells cur t fz) → ∃ cur', (w.setCells b o vs).heap[b]? = some (.cells cur' t fz) ∧ cur'.size = cur.size
  | [], _, _, cur, _, _, h => ⟨cur, h, rfl⟩
  | v :: r, o, w, cur, t, fz, h => by
    have h1 : (w.setCell ⟨b, o, none⟩ v).heap[b]? = some (.cells (cur.setIfInBounds o v) t fz) := by
      simp only [World.setCell]
      rw [Array.getElem?_modify, if_pos rfl, h]
      simp
    obtain ⟨cur', h2, h3⟩ := heap_setCells b r (o + 1) _ _ t fz h1
    exact ⟨cur', h2, by rw [h3]; simp⟩
theorem csize_setCell (w : World) (b o : Nat) (v : Value) (c : Nat) : csize (w.setCell ⟨b, o, none⟩ v) c = csize w c := by
  unfold csize
  simp only [World.setCell, Array.getElem?_modify]
  by_cases h : b = c
  · subst h
    simp only [if_true]
    cases w.heap[b]? with
    | none => rfl
    | some ob => cases ob <;> simp
  · rw [if_neg h]
theorem csize_setCells (b : Nat) : ∀ (o : Nat) (vs : List Value) (w : World) (c : Nat), c < w.heap.size → csize (w.setCells b o vs) c = csize w c
  | _, [], _, _, _ => rfl
  | o, v :: r, w, c, h => by
    rw [World.setCells, csize_setCells b (o + 1) r _ c (by simpa [World.setCell] using h), csize_setCell]
theorem zone_step (r : RW g T w) {k : Nat} {x : Tl} {p : Nat × Nat × Bool} (hp : T.tails[k]? = some p) (hx : g.tail k = some x) (news : List Value) (hroom : x.f + news.length ≤ x.lim) (hpos : 0 < news.length) :
    RW g T (w.setCells x.b x.f news) ∧ Evo g w g (w.setCells x.b x.f news) ∧ Same g T w (w.setCells x.b x.f news) := by
  obtain ⟨x', q1, q2, q3, q4⟩ := r.tl k p hp
  rw [hx] at q1; injection q1 with q1; subst q1
  have hzin : ∀ j, j < news.length → x.in x.b (x.f + j) := fun j hj => ⟨rfl, by omega, by omega⟩
  have hin0 : x.in x.b x.f := ⟨rfl, Nat.le_refl _, by omega⟩
  have hlt : x.b < w.heap.size := by
    obtain ⟨u, hu⟩ := Option.isSome_iff_exists.1 (q4 x.b x.f hin0).1
    exact lt_of_cell hu
  have hblk : ∀ c, c < w.heap.size → c ≠ x.b → (w.setCells x.b x.f news).heap[c]? = w.heap[c]? := fun c hc hn => World.heap_setCells_other w x.b x.f news hc hn
  have hcell : ∀ b o, ¬ (b = x.b ∧ x.f ≤ o ∧ o < x.f + news.length) → (w.setCells x.b x.f news).cell? ⟨b, o, none⟩ = w.cell? ⟨b, o, none⟩ := fun b o hn =>
    World.cell?_setCells_out x.b news x.f w ⟨b, o, none⟩ (fun hb _ => by
      simp only at hb ⊢
      rcases Nat.lt_or_ge o x.f with h1 | h1
      · exact .inl h1
      · right
        rcases Nat.lt_or_ge o (x.f + news.length) with h2 | h2
        · exact absurd ⟨hb, h1, h2⟩ hn
        · exact h2)
  have hsz : (w.setCells x.b x.f news).heap.size = w.heap.size := size_setCells x.b news x.f w
  have e : Evo g w g (w.setCells x.b x.f news) := by
    refine ⟨World.os_setCells w _ _ _, ?_, World.output_setCells w _ _ _, by omega, fun _ _ h => h, fun b o hs => ⟨hs, hcell b o ?_⟩, rfl, fun b hb => hblk b (r.fr b hb) ?_, fun _ _ _ h => h, fun _ y h => ⟨y, h, .inl rfl, rfl, rfl⟩, (fun _ _ h h' => nomatch (h.symm.trans h')), fun b hb => csize_setCells x.b x.f news w b hb⟩
    · exact tape_setCells x.b news x.f w
    · rintro ⟨rfl, h1, h2⟩
      exact (q4 x.b o ⟨rfl, h1, by omega⟩).2.2.1 hs
    · rintro rfl
      exact (q4 x.b x.f hin0).2.2.2 hb
  have sm : Same g T w (w.setCells x.b x.f news) := ⟨fun b o h => (e.st b o h).2, fun id o b h hl hb => by
    obtain ⟨b', h1, h2, _⟩ := r.obj id o h hl
    rw [hb] at h1; injection h1 with h1; subst h1
    exact hblk b (h2.lt hl) (by rintro rfl; exact r.tobj id o x.b k x h hl hb hx (.inl ⟨x.f, hin0⟩))⟩
  refine ⟨⟨?_, r.inj, r.out, ?_, ?_, ?_, r.tout, r.tinj, r.tobj, ?_, r.own0, fun j y hy => by rw [hsz]; exact r.tlo j y hy⟩, e, sm⟩
  rotate_left 4
  · intro j y hy h1 h2
    obtain ⟨⟨cur, h3, h3'⟩, h4⟩ := r.own j y hy h1 h2
    refine ⟨?_, h4⟩
    by_cases hb : y.b = x.b
    · rw [hb] at h3 ⊢
      obtain ⟨cur', h5, h6⟩ := heap_setCells x.b news x.f w cur _ _ h3
      exact ⟨cur', h5, h6.trans h3'⟩
    · exact ⟨cur, by rw [hblk y.b (Array.getElem?_eq_some_iff.1 h3).1 hb]; exact h3, h3'⟩
  · intro id o h hl
    obtain ⟨b, h1, h2, h3⟩ := r.obj id o h hl
    refine ⟨b, h1, h2.mono e (hblk b (h2.lt hl) ?_), h3⟩
    rintro rfl
    exact r.tobj id o x.b k x h hl h1 hx (.inl ⟨x.f, hin0⟩)
  · intro b o hs
    rw [(e.st b o hs).2]; exact r.st b o hs
  · intro b hb; rw [hsz]; exact r.fr b hb
  · intro j p' hj
    obtain ⟨y, a1, a2, a3, a4⟩ := r.tl j p' hj
    refine ⟨y, a1, a2, a3, fun b o hi => ?_⟩
    obtain ⟨b1, b2, b3⟩ := a4 b o hi
    exact ⟨World.isSome_setCells x.b news x.f w ⟨b, o, none⟩ b1, by rw [World.frozen?_setCells]; exact b2, b3⟩
end
end Go.Proofs.YtapfboldkkodkaaGreatDoor
