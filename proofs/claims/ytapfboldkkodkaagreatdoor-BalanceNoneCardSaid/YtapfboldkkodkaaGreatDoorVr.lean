/- Operations on slices of the function's own (rows), on what a walk knows. For any program. -/
import Derived.Test.YtapfboldkkodkaaGreatDoorVx
import Derived.Test.YtapfboldkkodkaaGreatDoorKey
import Derived.Laws.MakeOwn
namespace Go.Proofs.YtapfboldkkodkaaGreatDoor
open Go.RowKit

section
variable {P : Program} {g : Gh} {T : VT} {w : World}
/-! ### What a slice reads as -/
def rowsR (T : VT) (size : Nat) : TV → Option (List (List TV))
  | .vec sz es _ => bif Nat.beq sz size then some es else none
  | .val (.slice none 0 _) => some []
  | .val (.string s) => bif Nat.beq size 1 then some (s.data.toList.map fun b => [.val (.int .u8 b.toNat)]) else none
  | .row sz id off n => match T.objs[id]? with
    | some (.row cs) => bif Nat.beq sz size && Nat.ble ((off + n) * size) cs.length then some (chunks size n ((cs.drop (off * size)).take (n * size))) else none
    | _ => none
  | .sl id off n _ => match T.objs[id]? with
    | some (.cells cs) => bif Nat.ble (off + n * size) cs.length then some (chunks size n ((cs.drop off).take (n * size))) else none
    | some (.row cs) => bif Nat.ble (off + n * size) cs.length then some (chunks size n ((cs.drop off).take (n * size))) else none
    | _ => none
  | _ => none
theorem src_at {size : Nat} {tx : TypeId} {b o n c : Nat} {us : List Value} (hk : (∃ e', P.underlying tx = some (.slice e')) ∨ P.underlying tx = some .string) (hl : us.length = n * size) (h1 : ∀ u ∈ us, u.oneCell' = true)
    (hc : ∀ (j : Nat) v, us[j]? = some v → w.cell? ⟨b, o + j, none⟩ = some v) : Src P size tx (.slice (some ⟨b, o, none⟩) n c) n us w := by
  have hc : ∀ w' : World, (∀ a, w'.cell? a = w.cell? a) → (Builtin.firstCells size n (.slice (some ⟨b, o, none⟩) n c)).run P w' = .ok us.toArray w' := fun w' hw => by
    have := run_loadCells_list (P := P) w' ⟨b, o, none⟩ us (fun j v hv => by rw [Addr.add_none, hw]; exact hc j v hv)
    rw [hl] at this
    simpa [Builtin.firstCells] using this
  exact ⟨hk, fun _ => rfl, hc w (fun _ => rfl), hc w.drew (fun _ => rfl), hl, h1⟩
theorem chunk_parts {size n : Nat} {cs : List TV} (h : cs.length = n * size) : (chunks size n cs).length = n ∧ (∀ e ∈ chunks size n cs, e.length = size) ∧ (chunks size n cs).flatten = cs :=
  ⟨chunks_len size n cs, (chunks_ok size n cs h).1, (chunks_ok size n cs h).2⟩
theorem rowsR_ok (r : RW g T w) {size : Nat} {tx : TypeId} {x : TV} {u : Value} {es : List (List TV)} (h : rowsR T size x = some es) (hx : VR g w x u) (hk : (∃ e', P.underlying tx = some (.slice e')) ∨ P.underlying tx = some .string) :
    ∃ news, Src P size tx u es.length news w ∧ VRs g w es.flatten news ∧ ∀ e ∈ es, e.length = size := by
  cases x <;> simp only [rowsR] at h <;> try (cases h)
  case val v =>
    have e1 : rowsR T size (.val v) = srcOf size (.val v) := by
      cases v with
      | slice a n c => cases a <;> cases n <;> rfl
      | string s => simp only [rowsR, srcOf]; cases hb : Nat.beq size 1 with
        | true => simp [Nat.eq_of_beq_eq_true hb]
        | false => simp [Nat.ne_of_beq_eq_false hb]
      | _ => rfl
    exact srcOf_ok (by rw [← e1]; exact h) hx hk
  case vec sz es' tok =>
    cases hb : Nat.beq sz size with
    | false => rw [hb] at h; cases h
    | true =>
      rw [hb] at h; injection h with h; subst h
      exact srcOf_ok (by simp [srcOf, Nat.eq_of_beq_eq_true hb]) hx hk
  case row sz id off n =>
    split at h
    · rename_i cs hid
      cases hb : (Nat.beq sz size && Nat.ble ((off + n) * size) cs.length) with
      | false => rw [hb] at h; cases h
      | true =>
        rw [hb] at h; injection h with h; subst h
        simp only [Bool.and_eq_true] at hb
        have hsz := Nat.eq_of_beq_eq_true hb.1
        have hle := Nat.le_of_ble_eq_true hb.2
        subst hsz
        obtain ⟨b, c, h1, h2, h3, h4, h5, rfl⟩ := hx.row_inv
        obtain ⟨b', q1, ⟨us, t, q2, q3, q4, q5⟩, _⟩ := r.obj id _ hid rfl
        rw [h1] at q1; injection q1 with q1; subst q1
        rw [Nat.add_mul] at hle
        have hl : ((cs.drop (off * sz)).take (n * sz)).length = n * sz := by simp; omega
        obtain ⟨k1, k2, k3⟩ := chunk_parts hl
        have hv := (q4.drop (off * sz)).take (n * sz)
        have hl2 : (((us.take cs.length).drop (off * sz)).take (n * sz)).length = n * sz := by simp; omega
        rw [k1, k3]
        refine ⟨_, src_at hk hl2 (fun u hu => q5 u (List.mem_of_mem_take (List.mem_of_mem_drop (List.mem_of_mem_take hu)))) (fun j v hv => ?_), hv, k2⟩
        rw [World.cell?, q2]
        simp only [List.getElem?_take, List.getElem?_drop] at hv
        split at hv
        · split at hv
          · simpa using hv
          · cases hv
        · cases hv
    · cases h
  case sl id off n cap =>
    split at h
    · rename_i cs hid
      cases hb : Nat.ble (off + n * size) cs.length with
      | false => rw [hb] at h; cases h
      | true =>
        rw [hb] at h; injection h with h; subst h
        have hle := Nat.le_of_ble_eq_true hb
        obtain ⟨b, h1, rfl⟩ := hx.sl_inv
        obtain ⟨b', q1, ⟨us, t, q2, q4, q5⟩, _⟩ := r.obj id _ hid rfl
        rw [h1] at q1; injection q1 with q1; subst q1
        have hl : ((cs.drop off).take (n * size)).length = n * size := by simp; omega
        obtain ⟨k1, k2, k3⟩ := chunk_parts hl
        have hv := (q4.drop off).take (n * size)
        have hl2 : ((us.drop off).take (n * size)).length = n * size := by rw [hv.1]; exact hl
        rw [k1, k3]
        refine ⟨_, src_at hk hl2 (fun u hu => q5 u (List.mem_of_mem_drop (List.mem_of_mem_take hu))) (fun j v hv => ?_), hv, k2⟩
        rw [World.cell?, q2]
        simp only [List.getElem?_take, List.getElem?_drop] at hv
        split at hv
        · simpa using hv
        · cases hv
    · rename_i cs hid
      cases hb : Nat.ble (off + n * size) cs.length with
      | false => rw [hb] at h; cases h
      | true =>
        rw [hb] at h; injection h with h; subst h
        have hle := Nat.le_of_ble_eq_true hb
        obtain ⟨b, h1, rfl⟩ := hx.sl_inv
        obtain ⟨b', q1, ⟨us, t, q2, q3, q4, q5⟩, _⟩ := r.obj id _ hid rfl
        rw [h1] at q1; injection q1 with q1; subst q1
        have hl : ((cs.drop off).take (n * size)).length = n * size := by simp; omega
        obtain ⟨k1, k2, k3⟩ := chunk_parts hl
        have hv := (q4.drop off).take (n * size)
        have hl2 : (((us.take cs.length).drop off).take (n * size)).length = n * size := by rw [hv.1]; exact hl
        rw [k1, k3]
        refine ⟨_, src_at hk hl2 (fun u hu => q5 u (List.mem_of_mem_take (List.mem_of_mem_drop (List.mem_of_mem_take hu)))) (fun j v hv => ?_), hv, k2⟩
        rw [World.cell?, q2]
        simp only [List.getElem?_take, List.getElem?_drop] at hv
        split at hv
        · split at hv
          · simpa using hv
          · cases hv
        · cases hv
    · cases h

/-! ### An object is let go of; a new one in a block that nobody has -/
def VT.kill (T : VT) (id : Nat) : VT := { T with objs := T.objs.set id .gone }
theorem RW.kill {g : Gh} {T : VT} {w : World} (r : RW g T w) {id b : Nat} {o : VO} (hid : T.objs[id]? = some o) (hl : o.live = true) (hb : g.obj id = some b) : RW g (T.kill id) w :=
  (r.setObj hid hl hb (o' := .gone) ⟨rfl, rfl, rfl⟩ rfl (fun _ _ => rfl) rfl (fun h => by cases h)).1
theorem kill_fresh {g : Gh} {T : VT} {w : World} (r : RW g T w) {id b : Nat} {o : VO} (hid : T.objs[id]? = some o) (hl : o.live = true) (hb : g.obj id = some b) : Fresh g (T.kill id) b where
  fr := by obtain ⟨b', h1, _, h3, _⟩ := r.obj id o hid hl; rw [hb] at h1; injection h1 with h1; subst h1; exact h3
  st := by obtain ⟨b', h1, _, _, h3⟩ := r.obj id o hid hl; rw [hb] at h1; injection h1 with h1; subst h1; exact h3
  obj := fun i oi h1 h2 h3 => by
    simp only [VT.kill, List.getElem?_set] at h1
    split at h1
    · split at h1
      · injection h1 with h1; subst h1; cases h2
      · cases h1
    · rename_i hne
      exact hne (r.inj id i o oi b hid hl h1 h2 hb h3)
  tl := fun k x hx h => r.tobj id o b k x hid hl hb hx h
theorem kill_len (T : VT) (id : Nat) : (T.kill id).objs.length = T.objs.length := by simp [VT.kill]
/-- what new row an append yields: the cells of old, and behind them new -/
def VT.newRow (T : VT) (cs : List TV) : VT := { T with objs := T.objs ++ [.row cs] }
theorem newRow_len (T : VT) (cs : List TV) : (T.newRow cs).objs.length = T.objs.length + 1 := by simp [VT.newRow]
/-- growth: a new block -/
theorem row_grow (r : RW g T w) {t tx ty e : TypeId} {i : TypeInfo} {z : Value} (ht : P.underlying t = some (.slice e)) (hi : P.info? e = some i) (hz : i.zero = some z) (hzs : z.cells.size = i.size)
    {cs cs2 : List TV} {a : Option Addr} {n n2 c : Nat} {us : List Value} {x : Value} {news : List Value} (hn : cs.length = n * i.size) (h5 : VRs g w cs us) (h8 : ∀ u ∈ us, u.oneCell' = true) (hz1 : ∀ u ∈ z.cells.toList, u.oneCell' = true)
    (hold : (Builtin.firstCells i.size n (.slice a n c)).run P w.drew = .ok us.toArray w.drew)
    (hs : Src P i.size tx x n2 news w) (k2 : VRs g w cs2 news) (hroom : c < n + n2) (hb : (n + n2) * (i.bytes + 1) ≤ 140737488355328) :
    ∃ u g' w', (Builtin.append_ #[t, tx] ty #[.slice a n c, x]).run P w = .ok u w' ∧ VR g' w' (.row i.size T.objs.length 0 (n + n2)) u ∧ Evo g w g' w' ∧ RW g' (T.newRow (cs ++ cs2)) w' ∧ Gr w w' := by
  rw [Nat.mul_add, Nat.mul_one] at hb
  have hrun := run_append_grow_src (P := P) w t tx ty e i z ht hi hz a n c us hold x n2 news hs hroom (by omega) (growslice_fits (bytes := i.bytes) hroom (by omega))
  have hge := grownCap_ge w (n + n2) c e
  have hle := grownCap_le_maxLen w (n + n2) c e (by unfold maxLen; omega)
  generalize hcap : grownCap w (n + n2) c e = cap at hrun hge hle
  have hnl := hs.newsLen
  have hul : us.length = n * i.size := by rw [h5.1, hn]
  have hz0 : ∀ u ∈ (Builtin.zeroCells z.cells (cap - (n + n2))).toList, u.oneCell' = true := by
    intro u hu
    rw [Array.mem_toList_iff] at hu
    obtain ⟨j, hj, rfl⟩ := Array.getElem_of_mem hu
    rw [size_zeroCells] at hj
    have hzp : 0 < z.cells.size := by
      rcases Nat.eq_zero_or_pos z.cells.size with h0 | h0
      · rw [h0, Nat.mul_zero] at hj; omega
      · exact h0
    have : (Builtin.zeroCells z.cells (cap - (n + n2)))[j]'(by rw [size_zeroCells]; exact hj) = z.cells[j % z.cells.size]'(Nat.mod_lt _ hzp) := by
      simp only [Builtin.zeroCells, Array.getElem_map, Array.getElem_range]
      exact getElem!_pos z.cells (j % z.cells.size) (Nat.mod_lt _ hzp)
    rw [this]
    exact hz1 _ (Array.mem_toList_iff.2 (Array.getElem_mem _))
  have hxs : ((us ++ news).toArray ++ Builtin.zeroCells z.cells (cap - (n + n2))).size = cap * i.size := by
    simp only [Array.size_append, List.size_toArray, List.length_append, size_zeroCells, hul, hnl, hzs, Nat.sub_mul, Nat.add_mul]
    have : (n + n2) * i.size ≤ cap * i.size := Nat.mul_le_mul_right _ hge
    rw [Nat.add_mul] at this
    omega
  have e0 : ((us ++ news).toArray ++ Builtin.zeroCells z.cells (cap - (n + n2))) = (us ++ news ++ (Builtin.zeroCells z.cells (cap - (n + n2))).toList).toArray := by
    apply Array.ext'
    simp
  rw [e0] at hrun hxs
  have hgr : Gr w (w.drew.alloc (.cells (us ++ news ++ (Builtin.zeroCells z.cells (cap - (n + n2))).toList).toArray e)) := (Gr.refl w).drew.alloc _
  have hnew : (w.drew.alloc (.cells (us ++ news ++ (Builtin.zeroCells z.cells (cap - (n + n2))).toList).toArray e)).heap[w.heap.size]? = some (.cells (us ++ news ++ (Builtin.zeroCells z.cells (cap - (n + n2))).toList).toArray e) := heap_alloc_new w.drew _
  generalize w.drew.alloc (.cells (us ++ news ++ (Builtin.zeroCells z.cells (cap - (n + n2))).toList).toArray e) = w' at *
  have e1 := Evo.of_gr r hgr
  have hl2 : (cs ++ cs2).length = (us ++ news).length := by simp [h5.1, k2.1]
  have ro : OR g w' w.heap.size (.row (cs ++ cs2)) := by
    refine ⟨_, e, hnew, ?_, ?_, ?_⟩
    · rw [hl2]; simp
    · rw [hl2, List.take_left']
      · exact (h5.app k2).mono e1
      · rfl
    · intro u hu
      rcases List.mem_append.1 hu with hu | hu
      · rcases List.mem_append.1 hu with hu | hu
        · exact h8 u hu
        · exact hs.one u hu
      · exact hz0 u hu
  have r1 := (r.gr hgr).addObj (r.fresh (Nat.le_refl _)) (o := .row (cs ++ cs2)) rfl ro
  have e2 := e1.trans (Evo.addObj (w := w') (b := w.heap.size) (r.out T.objs.length (Nat.le_refl _)))
  have hlt : w.heap.size < w'.heap.size := (Array.getElem?_eq_some_iff.1 hnew).1
  have hcz : csize w' w.heap.size = cap * i.size := by rw [csize_cells hnew]; exact hxs
  refine ⟨_, _, _, hrun, ?_, e2, r1, hgr⟩
  have := VR.row (g := g.addObj T.objs.length w.heap.size) (w := w') (size := i.size) (id := T.objs.length) (off := 0) (n := n + n2) (b := w.heap.size) (c := cap) (by simp [Gh.addObj]) hlt hge hle (by rw [hcz, Nat.zero_add])
  rw [Nat.zero_mul] at this
  exact this
/-- room: in place -/
theorem row_room (r : RW g T w) {t tx ty e : TypeId} {i : TypeInfo} (ht : P.underlying t = some (.slice e)) (hi : P.info? e = some i) {id n n2 b c : Nat} {cs cs2 : List TV} {x : Value} {news : List Value}
    (hid : T.objs[id]? = some (.row cs)) (hb : g.obj id = some b) (hm : c ≤ maxLen) (hc : c * i.size = csize w b) (hn : n * i.size ≤ cs.length)
    (hs : Src P i.size tx x n2 news w) (k2 : VRs g w cs2 news) (hroom : n + n2 ≤ c) :
    ∃ u g' w', (Builtin.append_ #[t, tx] ty #[.slice (some ⟨b, 0, none⟩) n c, x]).run P w = .ok u w' ∧ VR g' w' (.row i.size T.objs.length 0 (n + n2)) u ∧ Evo g w g' w' ∧ RW g' ((T.kill id).newRow (cs.take (n * i.size) ++ cs2)) w' ∧
      ∀ c', c' ≠ b → w'.heap[c']? = w.heap[c']? := by
  obtain ⟨b', q1, ⟨us, t0, q2, q3, q4, q5⟩, q6, q7⟩ := r.obj id _ hid rfl
  rw [hb] at q1; injection q1 with q1; subst q1
  have hnl := hs.newsLen
  have hus : us.length = c * i.size := by rw [hc, csize_cells q2]; simp
  have hmul : (n + n2) * i.size ≤ c * i.size := Nat.mul_le_mul_right _ hroom
  rw [Nat.add_mul] at hmul
  have hst := run_storeCells_at (P := P) b (n * i.size) t0 news 0 us.toArray w q2 (by simp; omega) hs.one
  simp only [Nat.add_zero] at hst
  have hrun : (Builtin.append_ #[t, tx] ty #[.slice (some ⟨b, 0, none⟩) n c, x]).run P w = .ok (.slice (some ⟨b, 0, none⟩) (n + n2) c) (w.setRow b (us.take (n * i.size) ++ news ++ us.drop (n * i.size + news.length)).toArray) := by
    rcases hs.kind with ⟨e', hk⟩ | hk <;> simp [Builtin.append_, run_underlying ht, run_underlying hk, sizeOf, typeInfo, hi, hs.len, hroom, hs.cells, Addr.add_lit, hst]
  have hsr := setRow_heap w b _ (us.take (n * i.size) ++ news ++ us.drop (n * i.size + news.length)).toArray t0 (0, 0) q2
  have hl' : (us.take (n * i.size) ++ news ++ us.drop (n * i.size + news.length)).length = us.length := by simp; omega
  have hcs : csize (w.setRow b (us.take (n * i.size) ++ news ++ us.drop (n * i.size + news.length)).toArray) b = csize w b := by
    rw [csize_cells hsr, csize_cells q2, List.size_toArray, List.size_toArray, hl']
  have hoth : ∀ c', c' ≠ b → (w.setRow b (us.take (n * i.size) ++ news ++ us.drop (n * i.size + news.length)).toArray).heap[c']? = w.heap[c']? := fun c' h => setRow_other w b c' _ h
  obtain ⟨r1, e1⟩ := r.setObj hid rfl hb (o' := .gone) (w' := w.setRow b (us.take (n * i.size) ++ news ++ us.drop (n * i.size + news.length)).toArray) ⟨rfl, rfl, rfl⟩ (by simp) hoth hcs (fun h => by cases h)
  have f : Fresh g (T.kill id) b := kill_fresh r hid rfl hb
  have ro : OR g (w.setRow b (us.take (n * i.size) ++ news ++ us.drop (n * i.size + news.length)).toArray) b (.row (cs.take (n * i.size) ++ cs2)) := by
    have h1 : (cs.take (n * i.size) ++ cs2).length = n * i.size + news.length := by simp [k2.1]; omega
    refine ⟨_, t0, hsr, ?_, ?_, ?_⟩
    · rw [h1, hl']; omega
    · rw [h1]
      have h2 : (us.take (n * i.size) ++ news ++ us.drop (n * i.size + news.length)).take (n * i.size + news.length) = us.take (n * i.size) ++ news := by
        rw [List.take_left' (by simp; omega)]
      rw [h2]
      have h3 := (q4.take (n * i.size)).app k2
      rw [List.take_take, Nat.min_eq_left hn] at h3
      exact h3.mono e1
    · intro u hu
      simp only [List.mem_append] at hu
      rcases hu with (hu | hu) | hu
      · exact q5 u (List.mem_of_mem_take hu)
      · exact hs.one u hu
      · exact q5 u (List.mem_of_mem_drop hu)
  have r2 := RW.addObj (T := T.kill id) r1 f (o := .row (cs.take (n * i.size) ++ cs2)) rfl ro
  rw [kill_len] at r2
  have e2 := e1.trans (Evo.addObj (w := w.setRow b (us.take (n * i.size) ++ news ++ us.drop (n * i.size + news.length)).toArray) (b := b) (r.out T.objs.length (Nat.le_refl _)))
  have hlt : b < w.heap.size := (Array.getElem?_eq_some_iff.1 q2).1
  refine ⟨_, _, _, hrun, ?_, e2, r2, hoth⟩
  have := VR.row (g := g.addObj T.objs.length b) (w := w.setRow b (us.take (n * i.size) ++ news ++ us.drop (n * i.size + news.length)).toArray) (size := i.size) (id := T.objs.length) (off := 0) (n := n + n2) (b := b) (c := c) (by simp [Gh.addObj]) (by simpa using hlt) hroom hm (by rw [hcs, Nat.zero_add]; exact hc)
  rw [Nat.zero_mul] at this
  exact this
/-- append, to a slice of the function's own -/
def vappR (P : Program) (ro : Nat) (T : VT) (t tx : TypeId) (s x : TV) : Option (TV × VT) := match P.underlying t with
  | some (.slice e) => match P.info? e with
    | some i => match i.zero, rowsR T i.size x with
      | some z, some es2 => match es2 with
        | [] => (match s with
          | .val (.slice none 0 0) => some (s, T)
          | .vec .. => some (s, T)
          | .row .. => some (s, T)
          | _ => none)
        | _ :: _ => bif decide (z.cells.size = i.size) && z.cells.toList.all Value.oneCell' && isSl (P.underlying tx) then (match s with
          | .val (.slice none 0 0) => bif Nat.ble (es2.length * (i.bytes + 1)) 140737488355328 then some (.row i.size T.objs.length 0 es2.length, T.newRow es2.flatten) else none
          | .vec sz es .full => bif Nat.beq sz i.size && Nat.ble ((es.length + es2.length) * (i.bytes + 1)) 140737488355328 then some (.row i.size T.objs.length 0 (es.length + es2.length), T.newRow (es.flatten ++ es2.flatten)) else none
          | .row sz id off n => (match T.objs[id]? with
            | some (.row cs) => bif Nat.beq sz i.size && Nat.beq off 0 && Nat.ble ro id && Nat.ble (n * i.size) cs.length && Nat.ble ((n + es2.length) * (i.bytes + 1)) 140737488355328 then some (.row i.size T.objs.length 0 (n + es2.length), (T.kill id).newRow (cs.take (n * i.size) ++ es2.flatten)) else none
            | _ => none)
          | _ => none) else none
      | _, _ => none
    | none => none
  | _ => none
theorem newRow_take (T : VT) (cs : List TV) : (T.newRow cs).objs.take T.objs.length = T.objs := by simp [VT.newRow]
theorem vappR_ok (r : RW g T w) {ro : Nat} {t tx ty : TypeId} {s x y : TV} {us ux : Value} {T' : VT} (h : vappR P ro T t tx s x = some (y, T')) (hs : VR g w s us) (hx : VR g w x ux)  (hk0 : isSl (P.underlying tx) = true) :
    ∃ u g' w', (Builtin.append_ #[t, tx] ty #[us, ux]).run P w = .ok u w' ∧ VR g' w' y u ∧ Evo g w g' w' ∧ RW g' T' w' ∧ Fix ro g T w T' w' := by
  unfold vappR at h
  split at h
  · rename_i e ht
    split at h
    · rename_i i hi
      split at h
      · rename_i z es2 hz hr2
        obtain ⟨news, sr, k2, z2⟩ := rowsR_ok (P := P) r hr2 hx (isSl_ok hk0)
        have hfl2 := flatten_len z2
        split at h
        · have sr0 : Src P i.size tx ux 0 news w := sr
          have none_ok : ∀ {a n c}, us = .slice a n c → n ≤ c → ∃ u g' w', (Builtin.append_ #[t, tx] ty #[us, ux]).run P w = .ok u w' ∧ VR g' w' s u ∧ Evo g w g' w' ∧ RW g' T w' ∧ Fix ro g T w T w' := by
            intro a n c h1 h2
            have := append_none (ty := ty) ht hi sr0 (a := a) h2
            rw [← h1] at this
            exact ⟨_, g, w, this, hs, Evo.refl _ _, r, Fix.refl _ _ _ _⟩
          split at h
          · injection h with h; injection h with h1 h2; subst h1 h2
            exact none_ok hs.val_inv (Nat.le_refl _)
          · injection h with h; injection h with h1 h2; subst h1 h2
            rcases hs.vec_inv with ⟨h1, _⟩ | ⟨b, o, c, us', h1, h2, _⟩
            · exact none_ok h1 (Nat.le_refl _)
            · exact none_ok h1 h2
          · injection h with h; injection h with h1 h2; subst h1 h2
            obtain ⟨b, c, _, _, h3, _, _, h1⟩ := hs.row_inv
            exact none_ok h1 h3
          · cases h
        · rename_i q0 qs
          cases hb : (decide (z.cells.size = i.size) && z.cells.toList.all Value.oneCell' && isSl (P.underlying tx)) with
          | false => rw [hb] at h; cases h
          | true =>
            rw [hb] at h
            simp only [Bool.and_eq_true, decide_eq_true_eq] at hb
            obtain ⟨⟨hz1, hz2⟩, hk⟩ := hb
            simp only [cond_true] at h
            have hz3 : ∀ u ∈ z.cells.toList, u.oneCell' = true := List.all_eq_true.1 hz2
            split at h
            · cases hb2 : Nat.ble ((q0 :: qs).length * (i.bytes + 1)) 140737488355328 with
              | false => rw [hb2] at h; cases h
              | true =>
                rw [hb2] at h
                injection h with h; injection h with h1 h2; subst h1 h2
                rw [hs.val_inv]
                obtain ⟨u, g', w', e1, e2, e3, e4, e5⟩ := row_grow (ty := ty) r ht hi hz hz1 (cs := []) (a := none) (n := 0) (c := 0) (us := []) (by simp) (VRs.nil g w) (by simp) hz3 (run_firstCells_none w.drew i.size 0 0 0) sr k2 (by simp) (by simpa using Nat.le_of_ble_eq_true hb2)
                rw [Nat.zero_add] at e2
                exact ⟨u, g', w', e1, e2, e3, by simpa using e4, Fix.of_same (Same.of_gr r e5) (newRow_take _ _)⟩
            · rename_i sz es
              cases hb2 : (Nat.beq sz i.size && Nat.ble ((es.length + (q0 :: qs).length) * (i.bytes + 1)) 140737488355328) with
              | false => rw [hb2] at h; cases h
              | true =>
                rw [hb2] at h
                simp only [Bool.and_eq_true] at hb2
                have hsz := Nat.eq_of_beq_eq_true hb2.1
                subst hsz
                injection h with h; injection h with h1 h2; subst h1 h2
                rcases hs.vec_inv with ⟨rfl, rfl, _⟩ | ⟨b, o, c, us', rfl, f1, f2, f3, f4, f5, f6, f7, f8⟩
                · obtain ⟨u, g', w', e1, e2, e3, e4, e5⟩ := row_grow (ty := ty) r ht hi hz hz1 (cs := []) (a := none) (n := 0) (c := 0) (us := []) (by simp) (VRs.nil g w) (by simp) hz3 (run_firstCells_none w.drew i.size 0 0 0) sr k2 (by simp) (by simpa using Nat.le_of_ble_eq_true hb2.2)
                  exact ⟨u, g', w', e1, e2, e3, by simpa using e4, Fix.of_same (Same.of_gr r e5) (newRow_take _ _)⟩
                · have hcf : c = es.length := f4
                  have hul : us'.length = es.length * i.size := by rw [f5.1, flatten_len f3]
                  have hold : (Builtin.firstCells i.size es.length (.slice (some ⟨b, o, none⟩) es.length c)).run P w.drew = .ok us'.toArray w.drew := by
                    have := run_loadCells_list (P := P) w.drew ⟨b, o, none⟩ us' (fun j v hv => by rw [Addr.add_none]; exact f7 j v hv)
                    rw [hul] at this
                    simpa [Builtin.firstCells] using this
                  obtain ⟨u, g', w', e1, e2, e3, e4, e5⟩ := row_grow (ty := ty) r ht hi hz hz1 (cs := es.flatten) (a := some ⟨b, o, none⟩) (n := es.length) (c := c) (us := us') (flatten_len f3) f5 f8 hz3 hold sr k2 (by simp; omega) (Nat.le_of_ble_eq_true hb2.2)
                  exact ⟨u, g', w', e1, e2, e3, e4, Fix.of_same (Same.of_gr r e5) (newRow_take _ _)⟩
            · rename_i sz id off n
              split at h
              · rename_i cs hid
                cases hb2 : (Nat.beq sz i.size && Nat.beq off 0 && Nat.ble ro id && Nat.ble (n * i.size) cs.length && Nat.ble ((n + (q0 :: qs).length) * (i.bytes + 1)) 140737488355328) with
                | false => rw [hb2] at h; cases h
                | true =>
                  rw [hb2] at h
                  simp only [Bool.and_eq_true] at hb2
                  obtain ⟨⟨⟨⟨hsz, hoff⟩, hro⟩, hn⟩, hbig⟩ := hb2
                  have hsz := Nat.eq_of_beq_eq_true hsz
                  have hoff := Nat.eq_of_beq_eq_true hoff
                  have hro := Nat.le_of_ble_eq_true hro
                  have hn := Nat.le_of_ble_eq_true hn
                  have hbig := Nat.le_of_ble_eq_true hbig
                  subst hsz hoff
                  injection h with h; injection h with h1 h2; subst h1 h2
                  obtain ⟨b, c, f1, f2, f3, f4, f5, rfl⟩ := hs.row_inv
                  obtain ⟨b', q1, ⟨us', t0, q2, q3, q4, q5⟩, _⟩ := r.obj id _ hid rfl
                  rw [f1] at q1; injection q1 with q1; subst q1
                  simp only [Nat.zero_add] at f5
                  rw [Nat.zero_mul]
                  have hlt : id < T.objs.length := (List.getElem?_eq_some_iff.1 hid).1
                  have fx : ∀ (w' : World) (cs' : List TV), (∀ c', c' ≠ b → c' < w.heap.size → w'.heap[c']? = w.heap[c']?) → Fix ro g T w ((T.kill id).newRow cs') w' := by
                    intro w' cs' ho
                    refine ⟨by rw [newRow_len, kill_len]; omega, fun j hj hl => ?_, fun j oj bj hj h1 h2 h3 => ?_⟩
                    · simp only [VT.newRow, VT.kill]
                      rw [List.getElem?_append_left (by simpa using hl), List.getElem?_set, if_neg (by omega)]
                    · obtain ⟨b2, p1, p2, _⟩ := r.obj j oj h1 h2
                      rw [h3] at p1; injection p1 with p1; subst p1
                      refine ho bj (fun hbb => ?_) (p2.lt h2)
                      have := r.inj j id oj _ bj h1 h2 hid rfl h3 (hbb ▸ f1)
                      omega
                  rcases Nat.lt_or_ge c (n + (q0 :: qs).length) with hgr | hrm
                  · have hul : ((us'.take cs.length).take (n * i.size)).length = n * i.size := by simp; omega
                    have hold : (Builtin.firstCells i.size n (.slice (some ⟨b, 0, none⟩) n c)).run P w.drew = .ok ((us'.take cs.length).take (n * i.size)).toArray w.drew := by
                      have := run_loadCells_list (P := P) w.drew ⟨b, 0, none⟩ ((us'.take cs.length).take (n * i.size)) (fun j v hv => by
                        rw [Addr.add_none]
                        simp only [Nat.zero_add]
                        show w.cell? _ = _
                        rw [World.cell?, q2]
                        simp only [List.getElem?_take] at hv
                        split at hv
                        · split at hv
                          · simpa using hv
                          · cases hv
                        · cases hv)
                      rw [hul] at this
                      simpa [Builtin.firstCells] using this
                    have rk := r.kill hid rfl f1
                    obtain ⟨u, g', w', e1, e2, e3, e4, e5⟩ := row_grow (ty := ty) rk ht hi hz hz1 (cs := cs.take (n * i.size)) (a := some ⟨b, 0, none⟩) (n := n) (c := c) (us := (us'.take cs.length).take (n * i.size)) (by simp; omega) (q4.take _) (fun u hu => q5 u (List.mem_of_mem_take (List.mem_of_mem_take hu))) hz3 hold sr k2 hgr hbig
                    rw [kill_len] at e2
                    refine ⟨u, g', w', e1, e2, e3, e4, fx w' _ fun c' _ hl => e5.heap hl⟩
                  · obtain ⟨u, g', w', e1, e2, e3, e4, e5⟩ := row_room (ty := ty) r ht hi hid f1 f4 f5 hn sr k2 hrm
                    exact ⟨u, g', w', e1, e2, e3, e4, fx w' _ fun c' hc' _ => e5 c' hc'⟩
              · cases h
            · cases h
      · cases h
    · cases h
  · cases h
end
end Go.Proofs.YtapfboldkkodkaaGreatDoor
