/- Siblings: all of the table, by their numbers. -/
import Derived.Test.YtgconkbnokbinaaMbSbSt
namespace Go.Proofs.Ytgconkbnokbinaa
open Go.RowKit Go.Maps Go.Sort

theorem oturn_site {T T1 : VT} {s x : Operand} {l : List (Nat × TV)} {es es2 : List (List TV)} {k n : Nat} {bn : Bool} (hs : vadopt T 3 (evOf noGl l s) = some (es, k, n, bn, T1)) (hx : srcOf 3 (evOf noGl l x) = some es2) (hb : es.length + es2.length ≤ 3000) :
    OTurn Try.prog noGl 0 T (.call ⟨.builtin .append, #[s, x], #[38, 38]⟩) l (.vec 3 (es ++ es2) (.tail k (n + es2.length))) { T1 with tails := T1.tails.set k (n + es2.length, 3, bn) } := by
  obtain ⟨inf, i_at, i_size, i_bytes, i_zero⟩ := siteInf_ex
  have h := oturn_app (inf := inf) (P := Try.prog) (G := noGl) (ro := 0) (T := T) (T1 := T1) (t := 38) (tx := 38) (s := s) (x := x) (l := l) (es := es) (es2 := es2) (k := k) (n := n) (bn := bn) Try.underlying38 i_at i_zero (by rw [i_size]; rfl) (by rw [i_size]; decide) (by kernel_rfl) (by rw [i_size]; exact hs) (by rw [i_size]; exact hx)
    (by have h1 := i_bytes
        have h2 := Nat.mul_le_mul hb h1
        omega)
  rw [i_size] at h
  exact h
theorem oturn_look {G : Globs} {T : VT} {t : TypeId} {m k : Operand} {ok : Bool} {l : List (Nat × TV)} {y : TV} (h : vlookup Try.prog T t (evOf G l m) (evOf G l k) ok = some y) : OTurn Try.prog G 0 T (.lookup t m k ok) l y T := by
  refine .mk ?_
  have h1 : vpure2 Try.prog (.lookup t m k ok) (evOf G l) = none := by simp [vpure2, vpure]
  have h2 : vread2 Try.prog T (.lookup t m k ok) (evOf G l) = some y := by simp only [vread2, h]
  simp only [vopA, h1, h2]
set_option maxRecDepth 100000 in
theorem look_site {T : VT} {lk : Value → Option TV} {es : List (Value × TV × Nat)} {ck id : Nat} {z : Int} (hid : T.objs[id]? = some (.map kI lk es ck)) (ok : Bool) : vlookup Try.prog T 50 (.map id) (.val (encI z)) ok = some (lookRes ok (lk (encI z)) (.agg #[.int .i64 0, .int .u32 0, .int .i64 0])) := by
  have h : ∀ o : Option VO, o = some (.map kI lk es ck) → (match Try.prog.underlying 50, toVal (.val (encI z)) with
      | some (.map kt et), some kv => match shapeOf Try.prog kt, Try.prog.info? et with
        | some sh, some i => match i.zero with
          | some zz => bif sh.fits kv then (match o with
              | some (.map sh' look _ _) => bif ksEq sh sh' then some (lookRes ok (look kv) zz) else none
              | _ => none) else none
          | none => none
        | _, _ => none
      | _, _ => none) = some (lookRes ok (lk (encI z)) (.agg #[.int .i64 0, .int .u32 0, .int .i64 0])) := by
    rintro _ rfl
    kernel_rfl
  exact h _ hid
def idE (S : List SiT) : List (List TV) := (idsOf S).map fun z => [.val (encI z)]
set_option maxRecDepth 100000 in
theorem opure_id {x i : Operand} {l : List (Nat × TV)} {L : List (List TV)} {tok : Tok} {k : IntKind} {z : Int} {e : List TV} (hx : evOf noGl l x = .vec 1 L tok) (hz : evOf noGl l i = .val (.int k z)) (h0 : 0 ≤ z) (he : L[z.toNat]? = some e) :
    OPure Try.prog noGl (.indexAddr 58 x i) l (.elt e) :=
  opure_index (inf := (Try.prog.info? 3).getD default) Try.underlying58 (by kernel_rfl) hx hz h0 he
set_option maxRecDepth 100000 in
theorem al_loop {lk lk2 : Value → Option TV} {es es2 : List (Value × TV × Nat)} {ck ck2 : Nat} {S : List SiT} {st : List Nat} (h : SitesOk lk es ck S st) : LsOk Try.prog noGl (allL lk lk2 es es2 ck ck2 (idE S) ((byId S).map siE) (codeAt Try.prog alF 0)) := specsL_ok fun p hp => by
  obtain rfl := List.mem_singleton.1 hp
  refine loopL_ok fun K hK => ?_
  have hlen : (idE S).length = (idsOf S).length := List.length_map _
  have hlb : (byId S).length = (idsOf S).length := List.length_map _
  have hfew := h.few
  have hil := idsOf_len S
  let sl : Nat → List TV := fun j => allV (idE S) (((byId S).take j).map siE) j
  let TT : Nat → VT := fun j => sT4 lk lk2 es es2 ck ck2 (((byId S).take j).map siE).length
  let Post : Exit → List TV → VT → Prop := fun e vs T => e = .normal ∧ vs = sl (idsOf S).length ∧ T = TT (idsOf S).length
  refine loopK (f := alF) (id := 0) (by kernel_rfl) 31 allK (fun j => (idsOf S).length - j) sl TT (fun j => j ≤ (idsOf S).length) 4 1 (fun _ _ => ⟨Nat.le_refl _, Nat.le_refl _⟩)
    Post (fun j hj => ?_) 0 (Nat.zero_le _) K (fun e vs T ⟨h1, h2, h3⟩ => ?_)
  · by_cases hlt : j < (idsOf S).length
    · obtain ⟨s, hf, hs⟩ := byId_at hlt
      have hw := wrapN j (by omega)
      have hl : lk (encI (idsOf S)[j]) = some (siT s) := by rw [h.at, hf]; rfl
      have he : (idE S)[j]? = some [.val (encI (idsOf S)[j])] := by unfold idE; rw [List.getElem?_map, List.getElem?_eq_getElem hlt]; rfl
      have hstep : ((byId S).take (j + 1)).map siE = ((byId S).take j).map siE ++ [siC s.1 s.2.1 s.2.2] := by
        rw [List.take_add_one, hs]; simp [siE]
      have htl : (((byId S).take j).map siE).length ≤ 100 := by simp only [List.length_map, List.length_take]; omega
      refine vx_is mixedB_Try bodiesB_Try specsOk_none lsOk_none (ev_alA lk lk2 es es2 ck ck2 (idE S) (((byId S).take j).map siE) (idsOf S)[j] s.1 s.2.1 s.2.2 j _) ?_
      refine condT (decide_eq_true (by omega)) ⟨opure_id rfl rfl (Int.natCast_nonneg _) (by simp only [Int.toNat_natCast]; exact he), oturn_look ((look_site (lk := lk) (es := es) (ck := ck) rfl false).trans (by rw [hl]; rfl)), oturn_site (T1 := TT j) (es2 := [siC s.1 s.2.1 s.2.2]) (by simp [evOf, evFind, vadopt, TT, sT4, kI]) rfl (by simp only [List.length_cons, List.length_nil]; omega), rfl, rfl, j + 1, hlt, by simp only; omega, .inl ⟨?_, ?_⟩⟩
      · simp only [TT, hstep, List.length_append, List.length_cons, List.length_nil]; rfl
      · simp only [sl, allV, hw, hstep, List.length_append, List.length_cons, List.length_nil]
    · obtain rfl : j = (idsOf S).length := by omega
      refine vx_is mixedB_Try bodiesB_Try specsOk_none lsOk_none (ev_alA lk lk2 es es2 ck ck2 (idE S) (((byId S).take (idsOf S).length).map siE) 0 0 0 0 (idsOf S).length _) ?_
      exact condF (decide_eq_false (by omega)) ⟨rfl, rfl, rfl, rfl, rfl⟩
  · subst h1 h2 h3
    have ht : (byId S).take (idsOf S).length = byId S := List.take_of_length_le (by omega)
    have e1 : sl (idsOf S).length = allV (idE S) ((byId S).map siE) (idE S).length := by simp only [sl, ht, hlen]
    have e2 : TT (idsOf S).length = sT4 lk lk2 es es2 ck ck2 ((byId S).map siE).length := by simp only [TT, ht]
    rw [e1, e2]
    exact hK
/-- all sites, by their numbers -/
theorem al_vcx {lk lk2 : Value → Option TV} {es es2 : List (Value × TV × Nat)} {ck ck2 : Nat} {S : List SiT} {st : List Nat} (h : SitesOk lk es ck S st) (h2 : ∀ f g, VO.ren f g (.map kI lk2 es2 ck2) = .map kI lk2 es2 ck2) :
    VCx Try.prog noGl 0 alF [.ptr 0 0] (sT lk lk2 es es2 ck ck2) fun x T' => x = .vec 3 ((byId S).map siE) .none ∧ T' = sT lk lk2 es es2 ck ck2 := by
  have hC : SpecsOk Try.prog noGl (specs [(skF, skW (sT3 lk lk2 es es2 ck ck2) (idE S))]) := specs_ok fun p hp => by
    obtain rfl := List.mem_singleton.1 hp
    exact sk_ok h
  refine VCx.keepQ 3 0 (Nat.le_refl _) (Nat.le_refl _) (vcallF_is mixedB_Try bodiesB_Try hC (al_loop h) (ev_al lk lk2 es es2 ck ck2 (idE S) ((byId S).map siE) _) ?_)
  refine ⟨⟨rfl, rfl, rfl⟩, rfl, ⟨rfl, rfl, rfl, ⟨rfl, trivial⟩, rfl, rfl, rfl⟩, ?_, ?_⟩
  · have hr : renLL (Go.Proofs.Ytgconkbnokbinaa.keep 3) (Go.Proofs.Ytgconkbnokbinaa.keep 0) ((byId S).map siE) = (byId S).map siE := by
      induction byId S with
      | nil => rfl
      | cons a l ih => simp only [List.map_cons, renLL, ih]; rfl
    simp only [TV.ren, hr, Tok.ren, Go.Proofs.Ytgconkbnokbinaa.keep]
    rfl
  · have e1 := h.ren (Go.Proofs.Ytgconkbnokbinaa.keep 3) (Go.Proofs.Ytgconkbnokbinaa.keep 0)
    have e2 := h2 (Go.Proofs.Ytgconkbnokbinaa.keep 3) (Go.Proofs.Ytgconkbnokbinaa.keep 0)
    unfold kI at e1 e2
    simp only [VT.keep, List.take_succ_cons, List.take_zero, List.map_cons, List.map_nil, e1, e2, sT, kI]
    rfl
end Go.Proofs.Ytgconkbnokbinaa
