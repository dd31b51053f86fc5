/- Rows in memory: a slice that reads as a row of cells; the laws of make, append, copy over rows that the call owns. For any program. -/
import Derived.Test.YtgconkbnokbinaaBase
import Derived.Test.YtgconkbnokbinaaPlan
import Derived.Laws.CopyOwn
import Derived.Laws.OwnMore
import Derived.Laws.MakeOwn
import Derived.Deep.AppendLies
namespace Go.Proofs.Ytgconkbnokbinaa
open Go.RowKit

/-- v is a slice of n elements of 'size' cells each, which read as xs -/
def Rd (w : World) (size : Nat) (v : Value) (n : Nat) (xs : List Value) : Prop :=
  xs.length = n * size ∧ ∃ p c, v = .slice p n c ∧ n ≤ c ∧ c ≤ maxLen ∧ (p = none → n = 0 ∧ c = 0) ∧
    ∀ ad, p = some ad → ad.spot = none ∧ ∀ j u, xs[j]? = some u → w.cell? ⟨ad.block, ad.off + j, none⟩ = some u

theorem Rd.len {w : World} {size : Nat} {v : Value} {n : Nat} {xs : List Value} (h : Rd w size v n xs) : xs.length = n * size := h.1
theorem Rd.gr {w w' : World} {size : Nat} {v : Value} {n : Nat} {xs : List Value} (g : Gr w w') (h : Rd w size v n xs) : Rd w' size v n xs := by
  obtain ⟨h1, p, c, hv, h2, h3, h4, h5⟩ := h
  exact ⟨h1, p, c, hv, h2, h3, h4, fun ad ha => ⟨(h5 ad ha).1, fun j u hu => g.cell ((h5 ad ha).2 j u hu)⟩⟩
theorem Rd.nil (w : World) (size : Nat) : Rd w size (.slice none 0 0) 0 [] :=
  ⟨by simp, none, 0, rfl, Nat.le_refl _, Nat.zero_le _, fun _ => ⟨rfl, rfl⟩, fun ad h => by cases h⟩
theorem Rd.max {w : World} {size : Nat} {v : Value} {n : Nat} {xs : List Value} (h : Rd w size v n xs) : n ≤ maxLen := by
  obtain ⟨_, p, c, _, h2, h3, _⟩ := h; omega
theorem Rd.pos {w : World} {size : Nat} {v : Value} {n : Nat} {xs : List Value} (h : Rd w size v n xs) (hn : 0 < n) :
    ∃ b o c, v = .slice (some ⟨b, o, none⟩) n c ∧ n ≤ c ∧ c ≤ maxLen ∧ ∀ j u, xs[j]? = some u → w.cell? ⟨b, o + j, none⟩ = some u := by
  obtain ⟨_, p, c, hv, h2, h3, h4, h5⟩ := h
  cases p with
  | none => have := (h4 rfl).1; omega
  | some ad =>
    obtain ⟨b, o, s⟩ := ad
    obtain ⟨hs, hc⟩ := h5 _ rfl
    simp only at hs hc
    subst hs
    exact ⟨b, o, c, hv, h2, h3, hc⟩
theorem Rd.of_own {w : World} {base : Nat} {e : TypeId} {size : Nat} {v : Value} {n : Nat} {xs : List Value} (h : w.ownsRow base e size v n xs) : Rd w size v n xs := by
  obtain ⟨hl, hx⟩ := h
  rcases hx with ⟨rfl, rfl⟩ | ⟨g, cap, cur, rfl, hb, hg, hn, hm, hs, ht⟩
  · have : xs = [] := List.eq_nil_of_length_eq_zero (by simpa using hl)
    subst this
    exact Rd.nil w size
  · refine ⟨hl, _, cap, rfl, hn, hm, (fun h => by cases h), fun ad h => ?_⟩
    injection h with h
    subst h
    refine ⟨rfl, fun j u hu => ?_⟩
    have h2 := World.ownsRow.cells (w := w) (base := base) (e := e) (size := size) (v := .slice (some ⟨g, 0, none⟩) n cap) (n := n) (xs := xs)
      ⟨hl, .inr ⟨g, cap, cur, rfl, hb, hg, hn, hm, hs, ht⟩⟩ (g := g) rfl j u hu
    have hadd : (⟨g, 0, none⟩ : Addr).add j = ⟨g, 0 + j, none⟩ := by unfold Addr.add; split <;> simp_all
    rw [hadd] at h2
    exact h2

theorem Rd.new (w : World) (xs : List Value) (t : TypeId) (size n : Nat) (hl : xs.length = n * size) (hm : n ≤ maxLen) : Rd (w.alloc (.cells xs.toArray t)) size (.slice (some ⟨w.heap.size, 0, none⟩) n n) n xs :=
  ⟨hl, _, n, rfl, Nat.le_refl _, hm, (fun h => by cases h), fun ad h => by
    injection h with h
    subst h
    refine ⟨rfl, fun j u hu => ?_⟩
    have := cell_new w xs t j u hu
    simpa using this⟩

theorem own_lit (w : World) (xs : List Value) (t : TypeId) (size n base : Nat) (hb : base ≤ w.heap.size) (hl : xs.length = n * size) (hm : n ≤ maxLen) :
    (w.alloc (.cells xs.toArray t)).ownsRow base t size (.slice (some ⟨w.heap.size, 0, none⟩) n n) n xs :=
  ⟨hl, .inr ⟨w.heap.size, n, xs.toArray, rfl, hb, heap_alloc_new w _, Nat.le_refl _, hm, by simpa using hl, by simp [← hl]⟩⟩
/-- s[:k] -/
theorem Rd.head {w : World} {p : Option Addr} {size n c k : Nat} {xs : List Value} (h : Rd w size (.slice p n c) n xs) (hk : k ≤ n) : Rd w size (.slice p k c) k (xs.take (k * size)) := by
  obtain ⟨hl, q, d, hv, h2, h3, h4, h5⟩ := h
  injection hv with e1 e2 e3
  subst e1 e3
  refine ⟨by rw [List.length_take, hl]; exact Nat.min_eq_left (Nat.mul_le_mul_right _ hk), p, c, rfl, by omega, h3, fun hp => ⟨by have := (h4 hp).1; omega, (h4 hp).2⟩, fun ad ha => ⟨(h5 ad ha).1, fun j u hu => ?_⟩⟩
  rw [List.getElem?_take] at hu
  split at hu
  · exact (h5 ad ha).2 j u hu
  · cases hu
theorem own_form {w : World} {base : Nat} {e : TypeId} {size : Nat} {v : Value} {n : Nat} {xs : List Value} (h : w.ownsRow base e size v n xs) (hn : 0 < n) :
    ∃ g c, v = .slice (some ⟨g, 0, none⟩) n c ∧ n ≤ c ∧ c ≤ maxLen := by
  rcases h.2 with ⟨_, rfl⟩ | ⟨g, cap, cur, rfl, _, _, hn, hm, _⟩
  · omega
  · exact ⟨g, cap, rfl, hn, hm⟩

/-- a call that returns a value with R, and has made memory alone -/
def Rets (w : World) (R : Value → World → Prop) (e : Ending) (w' : World) : Prop := ∃ v, e = .returned v ∧ Gr w w' ∧ R v w'
theorem Rets.mk {w w' : World} {R : Value → World → Prop} {v : Value} (g : Gr w w') (h : R v w') : Rets w R (.returned v) w' := ⟨v, rfl, g, h⟩

theorem own_gr {w w' : World} {base : Nat} {e : TypeId} {size : Nat} {v : Value} {n : Nat} {xs : List Value} (g : Gr w w') (h : w.ownsRow base e size v n xs) : w'.ownsRow base e size v n xs := by
  refine ⟨h.1, ?_⟩
  rcases h.2 with hn | ⟨k, cap, cur, rfl, hb, hg, r⟩
  · exact .inl hn
  · have hk := (Array.getElem?_eq_some_iff.1 hg).1
    exact .inr ⟨k, cap, cur, rfl, hb, (by rw [Below.block g k hk]; exact hg), r⟩
theorem own_mono {w : World} {base base' : Nat} {e : TypeId} {size : Nat} {v : Value} {n : Nat} {xs : List Value} (hb : base' ≤ base) (h : w.ownsRow base e size v n xs) : w.ownsRow base' e size v n xs := by
  refine ⟨h.1, ?_⟩
  rcases h.2 with hn | ⟨k, cap, cur, rfl, hk, r⟩
  · exact .inl hn
  · exact .inr ⟨k, cap, cur, rfl, by omega, r⟩
/-- behind an append or a store to an owned row -/
theorem gr_grown {a w w' : World} {base : Nat} {e : TypeId} {size : Nat} {v : Value} {n : Nat} {xs : List Value} (g : Gr a w) (hb : a.heap.size ≤ base) (h : w.ownsRow base e size v n xs) (k : w.grownBy w' v.ownBlock) : Gr a w' := by
  unfold Gr at *
  exact g.grown k g.size (fun j hj => by have := (h.lt j hj).1; omega)

/-- bytes, and the string of them -/
def u8s (l : List Nat) : List Value := l.map fun x : Nat => Value.int .u8 (x : Int)
def bstr (l : List Nat) : ByteArray := ⟨(l.map UInt8.ofNat).toArray⟩
theorem u8s_one (l : List Nat) : ∀ u ∈ u8s l, u.oneCell' = true := by
  intro u hu
  simp only [u8s, List.mem_map] at hu
  obtain ⟨x, _, rfl⟩ := hu
  rfl
theorem u8s_snoc (l : List Nat) (x : Nat) : u8s (l ++ [x]) = u8s l ++ [.int .u8 (x : Int)] := by simp [u8s]
theorem u8s_app (l m : List Nat) : u8s (l ++ m) = u8s l ++ u8s m := by simp [u8s]
theorem u8s_len (l : List Nat) : (u8s l).length = l.length := by simp [u8s]

section
variable {P : Program} {w : World}

/-- string(b) -/
theorem conv_rd {src dst e : TypeId} (hs : P.underlying src = some (.slice e)) (he : P.underlying e = some (.int .u8)) (hd : P.underlying dst = some .string) {v : Value} {n : Nat} {l : List Nat} (h : Rd w 1 v n (u8s l))
    (hl : ∀ x ∈ l, x < 256) : (convert src dst v).run P w = .ok (.string (bstr l)) w := by
  obtain ⟨hn, p, c, rfl, h2, h3, h4, h5⟩ := h
  rw [u8s_len, Nat.mul_one] at hn
  subst hn
  cases p with
  | none =>
    obtain ⟨h6, rfl⟩ := h4 rfl
    have : l = [] := List.eq_nil_of_length_eq_zero h6
    subst this
    rw [run_convert_bytes_nil w src e hs he _ _ dst hd]
    rfl
  | some ad =>
    obtain ⟨b, o, s⟩ := ad
    obtain ⟨hs5, hc5⟩ := h5 _ rfl
    simp only at hs5 hc5
    subst hs5
    have hadd : ∀ j, (⟨b, o, none⟩ : Addr).add j = ⟨b, o + j, none⟩ := by intro j; unfold Addr.add; split <;> simp_all
    have := run_convert_bytes_back (P := P) w src dst e ⟨b, o, none⟩ c (l.map UInt8.ofNat) hs he hd (fun j hj => by
      simp only [List.length_map] at hj
      rw [hadd]
      refine hc5 j _ ?_
      have := hl l[j] (List.getElem_mem _)
      simp [u8s, hj, Nat.mod_eq_of_lt this])
    rw [List.length_map] at this
    exact this

/-- s[:k] -/
theorem run_sl_hi {t e : TypeId} (ht : P.underlying t = some (.slice e)) (hs : (P.info? e).isSome = true) (b o n c k : Nat) (w : World) (hk : k ≤ c) :
    (Instr.slice t (.slice (some ⟨b, o, none⟩) n c) none (some (.int .i64 (k : Int))) none).run P w = .ok (.slice (some ⟨b, o, none⟩) k c) w := by
  have h2 : (k : Int) ≤ c := by omega
  cases hi : P.info? e with
  | none => simp [hi] at hs
  | some i => simp [Instr.slice, Instr.sliceBounds, run_underlying ht, go_sem, sizeOf, typeInfo, hi, Addr.add, h2]
/-- s[k:] -/
theorem run_sl_lo {t e : TypeId} (ht : P.underlying t = some (.slice e)) (size : Nat) (hs : (P.info? e).map (·.size) = some size) (b o n c k : Nat) (w : World) (hk : k ≤ n) (_hn : n ≤ c) :
    (Instr.slice t (.slice (some ⟨b, o, none⟩) n c) (some (.int .i64 (k : Int))) none none).run P w = .ok (.slice (some ⟨b, if c = k then o else o + k * size, none⟩) (n - k) (c - k)) w := by
  have h2 : (k : Int) ≤ n := by omega
  cases hi : P.info? e with
  | none => simp [hi] at hs
  | some i =>
    simp [hi] at hs
    by_cases h0 : c = k
    · simp [Instr.slice, Instr.sliceBounds, run_underlying ht, go_sem, sizeOf, typeInfo, hi, h2, h0]
    · by_cases hz : k * size = 0
      · simp [Instr.slice, Instr.sliceBounds, run_underlying ht, go_sem, sizeOf, typeInfo, hi, Addr.add, h2, h0, hs, hz]
      · simp [Instr.slice, Instr.sliceBounds, run_underlying ht, go_sem, sizeOf, typeInfo, hi, Addr.add, h2, h0, hs, hz]

/-- make([]T, l, c) -/
theorem wp_make {dst : Option Tmp} {ty : TypeId} {pos : String} {after : Array Edge} {gd : Option (Nat × Bool)} {a : Act} {K : Act → World → Prop} {Q : Exit → Act → World → Prop} {t : TypeId} {x y : Operand} (e : TypeId) (base : Nat) (i : TypeInfo) (z : Value) (size bytes : Nat)
    (ht : P.underlying t = some (.slice e)) (hi : P.info? e = some i) (hz : i.zero = some z) (hsize : i.size = size) (hby : i.bytes = bytes) (l c : Nat) (kl kc : IntKind) (lz cz : Int)
    (hx : a.eval x = .int kl lz) (hy : a.eval y = .int kc cz) (hlz : lz = (l : Int)) (hcz : cz = (c : Int)) (hlc : l ≤ c) (hbytes : bytes * c ≤ 281474976710656) (h63 : c ≤ maxLen) (hbase : base ≤ w.heap.size)
    (h : ∀ v' w', w'.ownsRow base e size v' l ((madeCells z.cells (c * size)).toList.take (l * size)) → Gr w w' → (∃ g, v' = .slice (some ⟨g, 0, none⟩) l c) → K (a.put dst v') w') : Oper.wp P ⟨dst, .makeSlice t x y, ty, pos, after, gd⟩ a w K Q := by
  subst hsize hby hlz hcz
  have hb' : (i.bytes : Int) * (c : Int) ≤ 281474976710656 := by
    have h : ((i.bytes * c : Nat) : Int) ≤ 281474976710656 := by omega
    rwa [Int.natCast_mul] at h
  have hr := run_make (P := P) w t e i z ht hi hz kl kc l c (by omega) (by omega) hb' (by unfold maxLen at h63; omega)
  simp only [Int.toNat_natCast] at hr
  unfold Oper.wp execOp
  simp only [hx, hy, Sem.run_bind, hr, Result.andThen_ok, Sem.run_pure]
  refine h _ _ ⟨?_, .inr ⟨w.heap.size, c, _, rfl, hbase, heap_alloc_new w _, hlc, h63, size_madeCells _ _, rfl⟩⟩ ((Gr.refl w).alloc _) ⟨_, rfl⟩
  rw [List.length_take, Array.length_toList, size_madeCells]
  exact Nat.min_eq_left (Nat.mul_le_mul_right _ hlc)

/-- append(own, xs...) -/
theorem wp_app {dst : Option Tmp} {ty : TypeId} {pos : String} {after : Array Edge} {gd : Option (Nat × Bool)} {a : Act} {K : Act → World → Prop} {Q : Exit → Act → World → Prop} {s x : Operand} {t : TypeId}
    (base : Nat) (e : TypeId) (i : TypeInfo) (z : Value) (size bytes : Nat) (ht : P.underlying t = some (.slice e)) (hi : P.info? e = some i) (hz : i.zero = some z)
    (hsize : i.size = size) (hby : i.bytes = bytes) (hzs : z.cells.size = size) (hsz : 0 < size)
    (v : Value) (n : Nat) (xs : List Value) (hs : a.eval s = v) (hown : w.ownsRow base e size v n xs)
    (y : Value) (m : Nat) (ys : List Value) (hx : a.eval x = y) (hy : Rd w size y m ys) (h1 : ∀ u ∈ ys, u.oneCell' = true)
    (h63 : n + m ≤ maxLen) (hbytes : (n + m) * bytes ≤ 140737488355328) (hbase : base ≤ w.heap.size)
    (h : ∀ v' w', w'.ownsRow base e size v' (n + m) (xs ++ ys) → w.grownBy w' v.ownBlock → K (a.put dst v') w') : Oper.wp P ⟨dst, .call { callee := .builtin .append, args := #[s, x], argTypes := #[t, t] }, ty, pos, after, gd⟩ a w K Q := by
  obtain ⟨hl, p, c, rfl, h2, h3, h4, h5⟩ := hy
  cases p with
  | some ad =>
    obtain ⟨hs5, hc5⟩ := h5 ad rfl
    have hadd : ∀ j, ad.add j = ⟨ad.block, ad.off + j, none⟩ := by
      intro j
      obtain ⟨b, of, sp⟩ := ad
      simp only at hs5
      subst hs5
      unfold Addr.add; split <;> simp_all
    exact wp_append_own w s x t rfl base e i z size bytes ht hi hz hsize hby hzs hsz v n xs hs hown ad m c ys hx hl (fun j u hu => by rw [hadd]; exact hc5 j u hu) h1 h63 hbytes hbase
      fun v' w' a1 a2 _ => h v' w' a1 a2
  | none =>
    obtain ⟨rfl, rfl⟩ := h4 rfl
    have : ys = [] := List.eq_nil_of_length_eq_zero (by simpa using hl)
    subst this
    have hr := run_append_owned_none (P := P) w base t ty e i size ht hi v n xs hown
    unfold Oper.wp execOp
    simp only [resolve, invoke, builtin, Sem.run_bind, Sem.run_pure, Result.andThen_ok, List.map_toArray, List.map_cons, List.map_nil, hs, hx, hr]
    exact h v w (by simpa using hown) (World.grownBy.refl _ _)

/-- copy(own, xs): as many as both have -/
theorem wp_copy {dst : Option Tmp} {ty : TypeId} {pos : String} {after : Array Edge} {gd : Option (Nat × Bool)} {a : Act} {K : Act → World → Prop} {Q : Exit → Act → World → Prop} {d s : Operand} {dT sT : TypeId}
    (base : Nat) (e : TypeId) (hu : P.underlying dT = some (.slice e)) (hsz : (P.info? e).map (·.size) = some 1)
    (v : Value) (n : Nat) (xs : List Value) (hd : a.eval d = v) (hown : w.ownsRow base e 1 v n xs)
    (y : Value) (m : Nat) (ys : List Value) (hx : a.eval s = y) (hy : Rd w 1 y m ys) (h1 : ∀ u ∈ ys, u.oneCell' = true)
    (h : ∀ w', w'.ownsRow base e 1 v n (ys.take n ++ xs.drop m) → w.grownBy w' v.ownBlock → K (a.put dst (goInt (Nat.min m n))) w') : Oper.wp P ⟨dst, .call { callee := .builtin .copy, args := #[d, s], argTypes := #[dT, sT] }, ty, pos, after, gd⟩ a w K Q := by
  obtain ⟨hl, p, c, rfl, h2, h3, h4, h5⟩ := hy
  have hlx := hown.1
  by_cases h0 : Nat.min m n = 0
  · have hsame : ys.take n ++ xs.drop m = xs := by
      rcases Nat.eq_zero_or_pos m with rfl | hm
      · have : ys = [] := List.eq_nil_of_length_eq_zero (by simpa using hl)
        simp [this]
      · have hn : n = 0 := by
          by_cases hmn : m ≤ n
          · have : Nat.min m n = m := Nat.min_eq_left hmn
            omega
          · have : Nat.min m n = n := Nat.min_eq_right (by omega)
            omega
        subst hn
        have : xs = [] := List.eq_nil_of_length_eq_zero (by simpa using hlx)
        simp [this]
    obtain ⟨dp, dc, hv⟩ : ∃ dp dc, v = .slice dp n dc := by
      rcases hown.2 with ⟨rfl, rfl⟩ | ⟨g, cap, cur, rfl, _⟩
      · exact ⟨_, _, rfl⟩
      · exact ⟨_, _, rfl⟩
    have hrun := run_copy_none (P := P) w dT sT ty e dp p n dc m c hu hsz h0
    unfold Oper.wp
    rw [h0] at h
    simp [execOp, resolve, invoke, builtin, hd, hx, hv, hrun, Result.andThen]
    exact h w (by rw [hsame]; exact hown) (World.grownBy.refl _ _)
  · rcases hown.2 with ⟨rfl, rfl⟩ | ⟨g, cap, cur, rfl, hb, hg, hnc, hcm, hcs, htk⟩
    · simp at h0
    · cases p with
      | none => obtain ⟨rfl, rfl⟩ := h4 rfl; simp at h0
      | some ad =>
        obtain ⟨hs5, hc5⟩ := h5 ad rfl
        have hadd : ∀ j, ad.add j = ⟨ad.block, ad.off + j, none⟩ := by
          intro j
          obtain ⟨b, of, sp⟩ := ad
          simp only at hs5
          subst hs5
          unfold Addr.add; split <;> simp_all
        have hlen : (ys.take n).length = Nat.min m n := by
          rw [List.length_take, hl, Nat.mul_one]; exact Nat.min_comm n m
        have hle : (ys.take n).length ≤ n := by rw [List.length_take]; exact Nat.min_le_left _ _
        simp only [Nat.mul_one] at hcs htk hlx hl
        have hrun := run_copy_row (P := P) w dT sT ty e g 0 n cap ad m c cur e (ys.take n) hu hsz hg hlen
          (fun j u hu => by
            rw [List.getElem?_take] at hu
            split at hu
            · rw [hadd]; exact hc5 j u hu
            · cases hu) (by omega) (fun u hu => h1 u (List.mem_of_mem_take hu))
        rw [hlen] at hrun
        unfold Oper.wp
        simp only [execOp, resolve, invoke, builtin, hd, hx, Sem.run_bind, Sem.run_pure, Result.andThen_ok, List.map_toArray, List.map_cons, List.map_nil, hrun]
        refine h _ ⟨?_, .inr ⟨g, cap, _, rfl, hb, setRow_heap w g _ _ e _ hg, hnc, hcm, ?_, ?_⟩⟩ ⟨rfl, rfl, rfl, by simp [World.setRow], fun k hk hne => setRow_other w g k _ (fun e => hne (by rw [e]; rfl))⟩
        · rw [List.length_append, hlen, List.length_drop, hlx]
          have : Nat.min m n = if m ≤ n then m else n := by
            split
            · exact Nat.min_eq_left ‹_›
            · exact Nat.min_eq_right (by omega)
          rw [this]; split <;> omega
        · simp only [List.take_zero, List.nil_append, List.size_toArray, List.length_append, List.length_drop, Array.length_toList, hlen]
          have : Nat.min m n ≤ n := Nat.min_le_right _ _
          omega
        · simp only [List.take_zero, List.nil_append, Nat.mul_one, Nat.zero_add]
          have hmn : Nat.min m n ≤ n := Nat.min_le_right _ _
          rw [List.take_append, hlen, List.take_of_length_le (by omega)]
          congr 1
          have e1 : (cur.toList.drop (Nat.min m n)).take (n - Nat.min m n) = xs.drop (Nat.min m n) := by
            rw [← htk, List.drop_take]
          rw [e1]
          by_cases hm : m ≤ n
          · rw [show Nat.min m n = m from Nat.min_eq_left hm]
          · rw [show Nat.min m n = n from Nat.min_eq_right (by omega), List.drop_eq_nil_of_le (by omega), List.drop_eq_nil_of_le (by omega)]
end

section
variable {P : Program} {w : World} {ops : Array Oper} {a : Act} {dst : Option Tmp} {ty : TypeId} {pos : String} {after : Array Edge}

theorem wpL_make {Q : Exit → Act → World → Prop} {rest : List Oper} {t : TypeId} {x y : Operand} (e : TypeId) (base : Nat) (i : TypeInfo) (z : Value) (size bytes : Nat)
    (ht : P.underlying t = some (.slice e)) (hi : P.info? e = some i) (hz : i.zero = some z) (hsize : i.size = size) (hby : i.bytes = bytes) (l c : Nat) (kl kc : IntKind) (lz cz : Int)
    (hx : a.eval x = .int kl lz) (hy : a.eval y = .int kc cz) (hlz : lz = (l : Int)) (hcz : cz = (c : Int)) (hlc : l ≤ c) (hbytes : bytes * c ≤ 281474976710656) (h63 : c ≤ maxLen) (hbase : base ≤ w.heap.size)
    (h : ∀ v' w', w'.ownsRow base e size v' l ((madeCells z.cells (c * size)).toList.take (l * size)) → Gr w w' → (∃ g, v' = .slice (some ⟨g, 0, none⟩) l c) → wpList P ops Q rest (a.put dst v') w') :
    wpList P ops Q (⟨dst, .makeSlice t x y, ty, pos, after, none⟩ :: rest) a w :=
  wpList_plain rfl fun _ hK => wp_make e base i z size bytes ht hi hz hsize hby l c kl kc lz cz hx hy hlz hcz hlc hbytes h63 hbase fun v' w' a1 a2 a3 => hK _ _ (h v' w' a1 a2 a3)

theorem wpL_app {Q : Exit → Act → World → Prop} {rest : List Oper} {s x : Operand} {t : TypeId}
    (base : Nat) (e : TypeId) (i : TypeInfo) (z : Value) (size bytes : Nat) (ht : P.underlying t = some (.slice e)) (hi : P.info? e = some i) (hz : i.zero = some z)
    (hsize : i.size = size) (hby : i.bytes = bytes) (hzs : z.cells.size = size) (hsz : 0 < size)
    (v : Value) (n : Nat) (xs : List Value) (hs : a.eval s = v) (hown : w.ownsRow base e size v n xs)
    (y : Value) (m : Nat) (ys : List Value) (hx : a.eval x = y) (hy : Rd w size y m ys) (h1 : ∀ u ∈ ys, u.oneCell' = true)
    (h63 : n + m ≤ maxLen) (hbytes : (n + m) * bytes ≤ 140737488355328) (hbase : base ≤ w.heap.size)
    (h : ∀ v' w', w'.ownsRow base e size v' (n + m) (xs ++ ys) → w.grownBy w' v.ownBlock → wpList P ops Q rest (a.put dst v') w') :
    wpList P ops Q (⟨dst, .call { callee := .builtin .append, args := #[s, x], argTypes := #[t, t] }, ty, pos, after, none⟩ :: rest) a w :=
  wpList_plain rfl fun _ hK => wp_app base e i z size bytes ht hi hz hsize hby hzs hsz v n xs hs hown y m ys hx hy h1 h63 hbytes hbase fun v' w' a1 a2 => hK _ _ (h v' w' a1 a2)

theorem wpL_copy {Q : Exit → Act → World → Prop} {rest : List Oper} {d s : Operand} {dT sT : TypeId}
    (base : Nat) (e : TypeId) (hu : P.underlying dT = some (.slice e)) (hsz : (P.info? e).map (·.size) = some 1)
    (v : Value) (n : Nat) (xs : List Value) (hd : a.eval d = v) (hown : w.ownsRow base e 1 v n xs)
    (y : Value) (m : Nat) (ys : List Value) (hx : a.eval s = y) (hy : Rd w 1 y m ys) (h1 : ∀ u ∈ ys, u.oneCell' = true)
    (h : ∀ w', w'.ownsRow base e 1 v n (ys.take n ++ xs.drop m) → w.grownBy w' v.ownBlock → wpList P ops Q rest (a.put dst (goInt (Nat.min m n))) w') :
    wpList P ops Q (⟨dst, .call { callee := .builtin .copy, args := #[d, s], argTypes := #[dT, sT] }, ty, pos, after, none⟩ :: rest) a w :=
  wpList_plain rfl fun _ hK => wp_copy base e hu hsz v n xs hd hown y m ys hx hy h1 fun w' a1 a2 => hK _ _ (h w' a1 a2)

/-- the same in a plan, from a world A on -/
theorem wpD_app {S : World → Prop} {Q : Act → World → Prop} {rest : List (Oper × Bool)} {s x : Operand} {t : TypeId} {gd : Option (Nat × Bool)} (A : World) (gA : Gr A w) (hS : ∀ w', Gr A w' → S w')
    (hw : Region.wanted ⟨dst, .call { callee := .builtin .append, args := #[s, x], argTypes := #[t, t] }, ty, pos, after, gd⟩ (yielded ops a.tmps) = true)
    (e : TypeId) (i : TypeInfo) (z : Value) (size bytes : Nat) (ht : P.underlying t = some (.slice e)) (hi : P.info? e = some i) (hz : i.zero = some z)
    (hsize : i.size = size) (hby : i.bytes = bytes) (hzs : z.cells.size = size) (hsz : 0 < size)
    (v : Value) (n : Nat) (xs : List Value) (hs : a.eval s = v) (hown : w.ownsRow A.heap.size e size v n xs)
    (y : Value) (m : Nat) (ys : List Value) (hx : a.eval x = y) (hy : Rd w size y m ys) (h1 : ∀ u ∈ ys, u.oneCell' = true)
    (h63 : n + m ≤ maxLen) (hbytes : (n + m) * bytes ≤ 140737488355328)
    (h : ∀ v' w', w'.ownsRow A.heap.size e size v' (n + m) (xs ++ ys) → Gr A w' → wpPlan P ops S Q rest (a.put dst v') w') :
    wpPlan P ops S Q ((⟨dst, .call { callee := .builtin .append, args := #[s, x], argTypes := #[t, t] }, ty, pos, after, gd⟩, false) :: rest) a w :=
  wpPlan_do hw fun _ hK => wp_app A.heap.size e i z size bytes ht hi hz hsize hby hzs hsz v n xs hs hown y m ys hx hy h1 h63 hbytes gA.size fun v' w' a1 a2 =>
    have g := gr_grown gA (Nat.le_refl _) hown a2
    hK _ _ (hS w' g) fun _ => h v' w' a1 g
end
end Go.Proofs.Ytgconkbnokbinaa
