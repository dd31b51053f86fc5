/- Siblings: the contracts of Best, Some, Until and Copy. -/
import Derived.Test.YtgconkbnokbinaaMbSbAbV
namespace Go.Proofs.Ytgconkbnokbinaa
open Go.RowKit Go.Maps Go.Sort

theorem otake_look {G : Globs} {T : VT} {t : TypeId} {m k : Operand} {ok : Bool} {l : List (Nat × TV)} {y : TV} (h : vlookup Try.prog T t (evOf G l m) (evOf G l k) ok = some y) : OTake Try.prog G T false (.lookup t m k ok) l y := by
  refine .mk ?_
  have h1 : vpure2 Try.prog (.lookup t m k ok) (evOf G l) = none := by simp [vpure2, vpure]
  have h2 : vread2 Try.prog T (.lookup t m k ok) (evOf G l) = some y := by simp only [vread2, h]
  simp only [vtakes, h1, h2, cond_false]
def hdS (l : List SiT) : SiT := l.headD (0, 0, 0)
def someS (l : List SiT) : Bool := !l.isEmpty
section
variable {lk lk2 : Value → Option TV} {es es2 : List (Value × TV × Nat)} {ck ck2 : Nat} {S : List SiT} {st : List Nat} {R : RpM}
theorem abW_ok (h : SitesOk lk es ck S st) (h2 : RepsOk lk2 es2 R) (n : Int) : ∀ ro ys T K, tabW (sT lk lk2 es es2 ck ck2).objs [.ptr 0 0, .val (.int .i64 n)] (.vec 3 ((ableS S R n).map siE) .none) ro ys T K → VCx Try.prog noGl ro abF ys T K :=
  tabW_ok h h2 rfl (fun f g => by simp only [TV.ren, renLL_site, Tok.ren]) (ab_vcx h h2 n)
theorem be_vcx (h : SitesOk lk es ck S st) (h2 : RepsOk lk2 es2 R) (n : Int) :
    VCx Try.prog noGl 0 beF [.ptr 0 0, .val (.int .i64 n)] (sT lk lk2 es es2 ck ck2) fun x T' => x = .tup [siT (hdS (ableS S R n)), .val (.bool (someS (ableS S R n)))] ∧ T' = sT lk lk2 es es2 ck ck2 := by
  have hab := abW_ok (ck2 := ck2) h h2 n
  have e1 := h.ren (Go.Proofs.Ytgconkbnokbinaa.keep 3) (Go.Proofs.Ytgconkbnokbinaa.keep 0)
  have e2 := h2.ren ck2 (Go.Proofs.Ytgconkbnokbinaa.keep 3) (Go.Proofs.Ytgconkbnokbinaa.keep 0)
  unfold kI at e1 e2
  cases hl : ableS S R n with
  | nil =>
    rw [hl] at hab
    refine VCx.keepQ 3 0 (Nat.le_refl _) (Nat.le_refl _) (vcallF_is mixedB_Try bodiesB_Try (specs_ok fun p hp => by obtain rfl := List.mem_singleton.1 hp; exact hab) lsOk_none (ev_be0 lk lk2 es es2 ck ck2 n _) ?_)
    refine ⟨⟨rfl, rfl, rfl⟩, rfl, ?_⟩
    simp only [VT.keep, List.take_succ_cons, List.take_zero, List.map_cons, List.map_nil, e1, e2, sT, kI]
    rfl
  | cons s l =>
    obtain ⟨i, a, c⟩ := s
    rw [hl] at hab
    refine VCx.keepQ 3 0 (Nat.le_refl _) (Nat.le_refl _) (vcallF_is mixedB_Try bodiesB_Try (specs_ok fun p hp => by obtain rfl := List.mem_singleton.1 hp; exact hab) lsOk_none (ev_be1 lk lk2 es es2 ck ck2 i a c (l.map siE) n _) ?_)
    refine ⟨⟨rfl, rfl, rfl⟩, rfl, ?_⟩
    simp only [VT.keep, List.take_succ_cons, List.take_zero, List.map_cons, List.map_nil, e1, e2, sT, kI]
    rfl
theorem so_vcx (h : SitesOk lk es ck S st) (h2 : RepsOk lk2 es2 R) (n : Int) :
    VCx Try.prog noGl 0 soF [.ptr 0 0, .val (.int .i64 n)] (sT lk lk2 es es2 ck ck2) fun x T' => x = .val (.bool (someS (ableS S R n))) ∧ T' = sT lk lk2 es es2 ck ck2 := by
  have hab := abW_ok (ck2 := ck2) h h2 n
  have e1 := h.ren (Go.Proofs.Ytgconkbnokbinaa.keep 3) (Go.Proofs.Ytgconkbnokbinaa.keep 0)
  have e2 := h2.ren ck2 (Go.Proofs.Ytgconkbnokbinaa.keep 3) (Go.Proofs.Ytgconkbnokbinaa.keep 0)
  unfold kI at e1 e2
  refine VCx.keepQ 3 0 (Nat.le_refl _) (Nat.le_refl _) (vcallF_is mixedB_Try bodiesB_Try (specs_ok fun p hp => by obtain rfl := List.mem_singleton.1 hp; exact hab) lsOk_none (ev_so lk lk2 es es2 ck ck2 ((ableS S R n).map siE) n _) ?_)
  refine ⟨⟨rfl, rfl, rfl⟩, ?_, ?_⟩
  · cases ableS S R n with
    | nil => rfl
    | cons s l =>
      simp only [TV.ren, someS, List.isEmpty_cons, Bool.not_false, List.map_cons, List.length_cons]
      rw [decide_eq_true (by omega)]
  · simp only [VT.keep, List.take_succ_cons, List.take_zero, List.map_cons, List.map_nil, e1, e2, sT, kI]
    rfl
/-- what a site has reported -/
def rptR (R : RpM) (i : Int) : Int × Int := (R i).getD (0, 0)
def untF (R : RpM) (m : Int) (s : SiT) : Int := if (rptR R s.1).2 > m then (rptR R s.1).2 else m
def untS (S : List SiT) (R : RpM) (n : Int) : Int := (ableS S R n).foldl (untF R) 0
theorem look_rp (h2 : RepsOk lk2 es2 R) (i : Int) : lookRes false (lk2 (encI i)) (.agg #[.int .i64 0, .int .i64 0]) = .agg (rpC (rptR R i).1 (rptR R i).2) := by
  rw [h2.get, rptR]
  cases R i <;> rfl
theorem un_vcx (h : SitesOk lk es ck S st) (h2 : RepsOk lk2 es2 R) (n : Int) :
    VCx Try.prog noGl 0 unF [.ptr 0 0, .val (.int .i64 n)] (sT lk lk2 es es2 ck ck2) fun x T' => x = .val (.int .i64 (untS S R n)) ∧ T' = sT lk lk2 es es2 ck ck2 := by
  have hab := abW_ok (ck2 := ck2) h h2 n
  have e1 := h.ren (Go.Proofs.Ytgconkbnokbinaa.keep 3) (Go.Proofs.Ytgconkbnokbinaa.keep 0)
  have e2 := h2.ren ck2 (Go.Proofs.Ytgconkbnokbinaa.keep 3) (Go.Proofs.Ytgconkbnokbinaa.keep 0)
  unfold kI at e1 e2
  have hlb : (ableS S R n).length ≤ 8 := by
    have h1 : (byId S).length ≤ 8 := by unfold byId; rw [List.length_map, idsOf_len]; exact h.few
    rw [ableS, List.length_mergeSort]
    exact Nat.le_trans (List.length_filter_le _ _) h1
  unfold untS
  generalize hB : ableS S R n = B at hab hlb
  have hloop : LsOk Try.prog noGl (untL lk lk2 es es2 ck ck2 (B.map siE) (B.foldl (untF R) 0) (codeAt Try.prog unF 0)) := specsL_ok fun p hp => by
    obtain rfl := List.mem_singleton.1 hp
    refine loopL_ok fun K hK => ?_
    let m : Nat → Int := fun j => (B.take j).foldl (untF R) 0
    let sl : Nat → List TV := fun j => untV (B.map siE) (m j) j
    let Post : Exit → List TV → VT → Prop := fun e vs T => e = .normal ∧ vs = sl B.length ∧ T = sT lk lk2 es es2 ck ck2
    refine loopK (f := unF) (id := 0) (by kernel_rfl) 28 untK (fun j => B.length - j) sl (fun _ => sT lk lk2 es es2 ck ck2) (fun j => j ≤ B.length) 3 0 (fun _ _ => ⟨Nat.le_refl _, Nat.le_refl _⟩)
      Post (fun j hj => ?_) 0 (Nat.zero_le _) K (fun e vs T ⟨h1, h2, h3⟩ => ?_)
    · by_cases hlt : j < B.length
      · have hs : B[j]? = some B[j] := List.getElem?_eq_getElem hlt
        generalize B[j] = s at hs
        obtain ⟨i, a, c⟩ := s
        have hw := wrapN j (by omega)
        have hm : m (j + 1) = untF R (m j) (i, a, c) := by
          simp only [m]
          rw [List.take_add_one, hs, List.foldl_append]; rfl
        refine vx_is mixedB_Try bodiesB_Try specsOk_none lsOk_none (ev_unA lk lk2 es es2 ck ck2 (B.map siE) i a c (m j) (rptR R i).1 (rptR R i).2 j _) ?_
        refine condT (decide_eq_true (by rw [List.length_map]; omega)) ⟨opure_site rfl rfl (Int.natCast_nonneg _) (by simp only [Int.toNat_natCast]; rw [List.getElem?_map, hs]; rfl), otake_look ((look_rep rfl false).trans (by rw [look_rp h2]; rfl)), rfl, rfl, j + 1, hlt, by simp only; omega, .inr ⟨?_, ?_⟩⟩
        · simp only [VT.keep, List.take_succ_cons, List.take_zero, List.map_cons, List.map_nil, e1, e2, sT, kI]
          rfl
        · simp only [renL, TV.ren, renLL_site, Tok.ren]
          simp only [sl, untV, hm, hw]
          rfl
      · obtain rfl : j = B.length := by omega
        refine vx_is mixedB_Try bodiesB_Try specsOk_none lsOk_none (ev_unA lk lk2 es es2 ck ck2 (B.map siE) 0 0 0 (m B.length) 0 0 B.length _) ?_
        exact condF (decide_eq_false (by rw [List.length_map]; omega)) ⟨rfl, rfl, rfl, rfl, rfl⟩
    · subst h1 h2 h3
      have e3 : sl B.length = untV (B.map siE) (B.foldl (untF R) 0) (B.map siE).length := by simp only [sl, m, List.take_length, List.length_map]
      rw [e3]
      exact hK
  refine VCx.keepQ 3 0 (Nat.le_refl _) (Nat.le_refl _) (vcallF_is mixedB_Try bodiesB_Try (specs_ok fun p hp => by obtain rfl := List.mem_singleton.1 hp; exact hab) hloop (ev_un lk lk2 es es2 ck ck2 (B.map siE) n (B.foldl (untF R) 0) _) ?_)
  refine ⟨⟨rfl, rfl, rfl⟩, rfl, ⟨rfl, rfl, rfl, trivial, rfl, rfl, rfl⟩, rfl, ?_⟩
  simp only [VT.keep, List.take_succ_cons, List.take_zero, List.map_cons, List.map_nil, e1, e2, sT, kI]
  rfl
end
end Go.Proofs.Ytgconkbnokbinaa
