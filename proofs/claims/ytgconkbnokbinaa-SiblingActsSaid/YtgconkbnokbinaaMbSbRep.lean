/- Siblings: the reports; the contracts of Remove, Report and Capacity. -/
import Derived.Test.YtgconkbnokbinaaMbSbPut
namespace Go.Proofs.Ytgconkbnokbinaa
open Go.RowKit Go.Maps Go.Sort

abbrev RpM := Int → Option (Int × Int)
def rpT (r : Int × Int) : TV := .agg (rpC r.1 r.2)
/-- the reports: R z is what is known of site z -/
structure RepsOk (lk : Value → Option TV) (es : List (Value × TV × Nat)) (R : RpM) : Prop where
  get : ∀ z, lk (encI z) = (R z).map rpT
  sh : ∀ k v, lk k = some v → ∃ r, v = rpT r
  ents : ∀ e ∈ es, ∃ r, e.2.1 = rpT r
theorem RepsOk.ren {lk : Value → Option TV} {es : List (Value × TV × Nat)} {R : RpM} (h : RepsOk lk es R) (ck : Nat) (f g : Nat → Option Nat) : VO.ren f g (.map kI lk es ck) = .map kI lk es ck := by
  have h1 : (fun k => (lk k).map (TV.ren f g)) = lk := by
    funext k
    cases hk : lk k with
    | none => rfl
    | some v =>
      obtain ⟨r, rfl⟩ := h.sh k v hk
      rfl
  have h2 : es.map (fun e => (e.1, e.2.1.ren f g, e.2.2)) = es := by
    refine (List.map_congr_left fun e he => ?_).trans (List.map_id es)
    obtain ⟨r, hr⟩ := h.ents e he
    obtain ⟨k, v, b⟩ := e
    simp only at hr
    subst hr
    rfl
  simp only [VO.ren, h1, h2]
def putR (i : Int) (r : Int × Int) (R : RpM) : RpM := fun z => bif i == z then some r else R z
def delR (i : Int) (R : RpM) : RpM := fun z => bif i == z then none else R z
theorem mput_mem {k : Value} {v : TV} {ck : Nat} : ∀ {es : List (Value × TV × Nat)} {e}, e ∈ mput k v ck es → e.2.1 = v ∨ e ∈ es
  | [], e, h => by rw [List.mem_singleton.1 h]; exact .inl rfl
  | x :: es, e, h => by
    unfold mput at h
    cases hc : keyEq k x.1
    · rw [hc, cond_false] at h
      rcases List.mem_cons.1 h with rfl | h
      · exact .inr List.mem_cons_self
      · rcases mput_mem h with h | h
        · exact .inl h
        · exact .inr (List.mem_cons_of_mem _ h)
    · rw [hc, cond_true] at h
      rcases List.mem_cons.1 h with rfl | h
      · exact .inl rfl
      · exact .inr (List.mem_cons_of_mem _ h)
theorem RepsOk.put {lk : Value → Option TV} {es : List (Value × TV × Nat)} {R : RpM} (h : RepsOk lk es R) (i : Int) (r : Int × Int) (ck : Nat) :
    RepsOk (fun k => bif keyEq (encI i) k then some (rpT r) else lk k) (mput (encI i) (rpT r) ck es) (putR i r R) where
  get := fun z => by
    simp only [keyI, h.get, putR]
    cases i == z <;> rfl
  sh := fun k v hv => by
    cases hc : keyEq (encI i) k
    · rw [hc, cond_false] at hv; exact h.sh k v hv
    · rw [hc, cond_true] at hv; exact ⟨r, (Option.some.inj hv).symm⟩
  ents := fun e he => by
    rcases mput_mem he with he | he
    · exact ⟨r, he⟩
    · exact h.ents e he
theorem RepsOk.del {lk : Value → Option TV} {es : List (Value × TV × Nat)} {R : RpM} (h : RepsOk lk es R) (i : Int) :
    RepsOk (fun k => bif keyEq (encI i) k then none else lk k) (mdel (encI i) es) (delR i R) where
  get := fun z => by
    simp only [keyI, h.get, delR]
    cases i == z <;> rfl
  sh := fun k v hv => by
    cases hc : keyEq (encI i) k
    · rw [hc, cond_false] at hv; exact h.sh k v hv
    · rw [hc, cond_true] at hv; cases hv
  ents := fun e he => h.ents e ((mdel_sub es).subset he)
set_option maxRecDepth 100000 in
theorem look_rep {T : VT} {lk : Value → Option TV} {es : List (Value × TV × Nat)} {ck id : Nat} {z : Int} (hid : T.objs[id]? = some (.map kI lk es ck)) (ok : Bool) : vlookup Try.prog T 51 (.map id) (.val (encI z)) ok = some (lookRes ok (lk (encI z)) (.agg #[.int .i64 0, .int .i64 0])) := by
  have h : ∀ o : Option VO, o = some (.map kI lk es ck) → (match Try.prog.underlying 51, toVal (.val (encI z)) with
      | some (.map kt et), some kv => match shapeOf Try.prog kt, Try.prog.info? et with
        | some sh, some i => match i.zero with
          | some zz => bif sh.fits kv then (match o with
              | some (.map sh' look _ _) => bif ksEq sh sh' then some (lookRes ok (look kv) zz) else none
              | _ => none) else none
          | none => none
        | _, _ => none
      | _, _ => none) = some (lookRes ok (lk (encI z)) (.agg #[.int .i64 0, .int .i64 0])) := by
    rintro _ rfl
    kernel_rfl
  exact h _ hid
/-- what Capacity answers -/
def capR (R : RpM) (i n : Int) : Int := match R i with
  | none => 0
  | some r => bif decide (n ≥ r.2) then 0 else r.1
theorem cp_vcx {lk lk2 : Value → Option TV} {es es2 : List (Value × TV × Nat)} {ck ck2 : Nat} {S : List SiT} {st : List Nat} {R : RpM} (h : SitesOk lk es ck S st) (h2 : RepsOk lk2 es2 R) (i n : Int) :
    VCx Try.prog noGl 0 cpF [.ptr 0 0, .val (.int .i64 i), .val (.int .i64 n)] (sT lk lk2 es es2 ck ck2) fun x T' => x = .val (.int .i64 (capR R i n)) ∧ T' = sT lk lk2 es es2 ck ck2 := by
  have e1 := h.ren (Go.Proofs.Ytgconkbnokbinaa.keep 3) (Go.Proofs.Ytgconkbnokbinaa.keep 0)
  have e2 := h2.ren ck2 (Go.Proofs.Ytgconkbnokbinaa.keep 3) (Go.Proofs.Ytgconkbnokbinaa.keep 0)
  unfold kI at e1 e2
  have hl := h2.get i
  have hlk := fun o => look_rep (T := sT lk lk2 es es2 ck ck2) (id := 2) (z := i) (lk := lk2) (es := es2) (ck := ck2) rfl o
  unfold sT kI at hlk
  cases hR : R i with
  | none =>
    rw [hR] at hl
    refine VCx.keepQ 3 0 (Nat.le_refl _) (Nat.le_refl _) (vcallF_is mixedB_Try bodiesB_Try specsOk_none lsOk_none (ev_cp lk lk2 es es2 ck ck2 i n 0 0 false _) ?_)
    refine ⟨oturn_look ((hlk true).trans (by rw [hl]; rfl)), condT rfl ⟨?_, ?_⟩⟩
    · simp only [TV.ren, capR, hR]
    · simp only [VT.keep, List.take_succ_cons, List.take_zero, List.map_cons, List.map_nil, e1, e2, sT, kI]
      rfl
  | some r =>
    rw [hR] at hl
    refine VCx.keepQ 3 0 (Nat.le_refl _) (Nat.le_refl _) (vcallF_is mixedB_Try bodiesB_Try specsOk_none lsOk_none (ev_cp lk lk2 es es2 ck ck2 i n r.1 r.2 true _) ?_)
    refine ⟨oturn_look ((hlk true).trans (by rw [hl]; rfl)), condF rfl ?_⟩
    cases hc : decide (n ≥ r.2)
    · refine condF rfl ⟨?_, ?_⟩
      · simp only [TV.ren, capR, hR, hc, cond_false]
      · simp only [VT.keep, List.take_succ_cons, List.take_zero, List.map_cons, List.map_nil, e1, e2, sT, kI]
        rfl
    · refine condT rfl ⟨?_, ?_⟩
      · simp only [TV.ren, capR, hR, hc, cond_true]
      · simp only [VT.keep, List.take_succ_cons, List.take_zero, List.map_cons, List.map_nil, e1, e2, sT, kI]
        rfl
end Go.Proofs.Ytgconkbnokbinaa
