/- Siblings: the contract of able. -/
import Derived.Test.YtgconkbnokbinaaMbSbAb2
import Derived.Test.YtgconkbnokbinaaMbSbSort
namespace Go.Proofs.Ytgconkbnokbinaa
open Go.RowKit Go.Maps Go.Sort Go.Shelf

theorem tabW_ok {lk lk2 : Value → Option TV} {es es2 : List (Value × TV × Nat)} {ck ck2 : Nat} {S : List SiT} {st : List Nat} {R : RpM} (h : SitesOk lk es ck S st) (h2 : RepsOk lk2 es2 R) {f : FuncId} {ys0 : List TV} {x0 : TV}
    (hy : renL (nameIn [0, 1, 2]) (nameIn []) ys0 = ys0) (hx : ∀ f g, x0.ren f g = x0) (hv : VCx Try.prog noGl 0 f ys0 (sT lk lk2 es es2 ck ck2) fun x T' => x = x0 ∧ T' = sT lk lk2 es es2 ck ck2) :
    ∀ ro ys T K, tabW (sT lk lk2 es es2 ck ck2).objs ys0 x0 ro ys T K → VCx Try.prog noGl ro f ys T K := by
  rintro ro ys ⟨os, tl⟩ K ⟨⟨rfl, rfl, hos⟩, hk⟩
  have q1 := h.ren (nameIn [0, 1, 2]) (nameIn [])
  have q2 := h2.ren ck2 (nameIn [0, 1, 2]) (nameIn [])
  match os, hos with
  | o0 :: o1 :: o2 :: l, hos =>
    simp only [List.take_succ_cons, List.take_zero, sT, List.cons.injEq, and_true] at hos
    obtain ⟨rfl, rfl, rfl⟩ := hos
    refine (VCx.lift (xs := ys) [0, 1, 2] [] gvals_noGl (by decide) List.nodup_nil (fun k hk => ?_) (by simp) (fun _ _ => Nat.zero_le _) hy ?_ (Q := fun x T' => x = x0 ∧ T' = sT lk lk2 es es2 ck ck2) (fun x T' hq => ?_)).mono ?_
    · simp only [List.mem_cons, List.not_mem_nil, or_false] at hk
      rcases hk with rfl | rfl | rfl
      · exact ⟨_, rfl, rfl⟩
      · exact ⟨_, rfl, rfl⟩
      · exact ⟨_, rfl, rfl⟩
    · have hg : VT.give ⟨.cells [.map 1, .map 2] :: .map kI lk es ck :: .map kI lk2 es2 ck2 :: l, tl⟩ [0, 1, 2] [] = sT lk lk2 es es2 ck ck2 := by
        simp only [VT.give, List.map_cons, List.map_nil, List.getElem?_cons_zero, List.getElem?_cons_succ, Option.getD_some, q1, q2, sT]
        rfl
      rw [hg]
      exact hv
    · rw [hq.2]; exact ⟨Nat.le_refl 3, Nat.zero_le _⟩
    · rintro x T' ⟨y, T2, ⟨rfl, rfl⟩, rfl, rfl⟩
      have r1 := h.ren (nameOut (l.length + 1 + 1 + 1) [0, 1, 2]) (nameOut tl.length [])
      have r2 := h2.ren ck2 (nameOut (l.length + 1 + 1 + 1) [0, 1, 2]) (nameOut tl.length [])
      have hb : VT.back ⟨.cells [.map 1, .map 2] :: .map kI lk es ck :: .map kI lk2 es2 ck2 :: l, tl⟩ [0, 1, 2] [] (sT lk lk2 es es2 ck ck2) = ⟨.cells [.map 1, .map 2] :: .map kI lk es ck :: .map kI lk2 es2 ck2 :: l, tl⟩ := by
        simp only [VT.back, sT, List.length_cons, List.map_cons, List.map_nil, r1, r2, giveBack]
        simp [VO.ren, TV.ren, renL, nameOut]
      rw [hb, hx]
      exact hk
/-- a sort of nothing -/
theorem ss0_ok {G : Globs} : ∀ ro ys T K, ssW0 ro ys T K → VCx Try.prog G ro ssF ys T K := by
  rintro ro ys T K ⟨⟨rfl, rfl⟩, hk⟩ g w us r hG hx
  have hl := hx.1
  match us, hl with
  | [u, f], _ =>
    obtain ⟨us, vs, rfl, h3, h4⟩ := (hx.2 1 _ f rfl rfl).fn_inv
    have e3 : us = [] := List.eq_nil_of_length_eq_zero h3.1
    have e4 : vs = [] := List.eq_nil_of_length_eq_zero h4.1
    subst e3 e4
    have key : ∀ p c, Calls Try.prog ssF #[.slice p 0 c, .func (.func 35) #[] #[]] w fun e w' => ∃ v x g' T', e = .returned v ∧ K x T' ∧ Evo g w g' w' ∧ RW g' T' w' ∧ VR g' w' x v ∧ Fix 0 g T w T' w' := fun p c =>
      (AnyF.slices_SortFunc_none Try.sortSi p c _ w).mono fun e w' ⟨he, hw⟩ => by
        subst hw
        exact ⟨.tuple #[], _, g, _, he, hk, Evo.refl _ _, r, .val _, Fix.refl _ _ _ _⟩
    rcases (hx.2 0 _ u rfl rfl).vec_inv with ⟨rfl, _⟩ | ⟨b, o, c, us, rfl, _⟩ | ⟨a, rfl, _⟩
    · exact key none 0
    · exact key _ c
    · exact key _ 0
/-- the address of a site of the table -/
def adrS (S : List SiT) (i : Int) : Int := (fndS S i).2.1
def icS (s : SiT) : Int × Int := (s.1, s.2.2)
theorem byId_mem {S : List SiT} {s : SiT} (h : s ∈ byId S) : s ∈ S ∧ fndS S s.1 = s := by
  unfold byId at h
  obtain ⟨z, hz, rfl⟩ := List.mem_map.1 h
  have hm : z ∈ S.map (·.1) := (List.mergeSort_perm (S.map (·.1)) leI).mem_iff.1 hz
  obtain ⟨s0, hs0, he⟩ := List.mem_map.1 hm
  cases hf : S.find? fun s => s.1 == z with
  | none =>
    have := List.find?_eq_none.1 hf s0 hs0
    simp [he] at this
  | some s =>
    have h1 : s.1 = z := by simpa using List.find?_some hf
    refine ⟨List.mem_of_find?_eq_some hf, ?_⟩
    simp only [fndS, Option.getD_some, h1, hf]
theorem map_sA (S : List SiT) : ∀ {l : List SiT}, (∀ s ∈ l, fndS S s.1 = s) → (l.map icS).map (sA (adrS S)) = l
  | [], _ => rfl
  | s :: l, h => by
    have h1 := h s List.mem_cons_self
    simp only [List.map_cons, map_sA S fun s hs => h s (List.mem_cons_of_mem _ hs)]
    congr 1
    show (s.1, adrS S s.1, s.2.2) = s
    rw [adrS, h1]
theorem le_sA (A : Int → Int) (a b : Int × Int) : (!(ltOf icZ) b a) = leS (sA A a) (sA A b) := by
  have h1 := icZ_nlt b a
  rw [Bool.eq_iff_iff]
  simp only [Bool.not_eq_true', h1, leS, sA, Bool.or_eq_true, Bool.and_eq_true]
  show ¬(b.2 < a.2 ∨ b.2 = a.2 ∧ b.1 < a.1) ↔ decide (a.2 < b.2) = true ∨ decide (a.2 = b.2) = true ∧ decide (a.1 ≤ b.1) = true
  simp only [decide_eq_true_eq]
  omega
theorem ableS_sort {S : List SiT} {l : List SiT} (h : ∀ s ∈ l, fndS S s.1 = s) : (sortI (l.map icS)).map (sA (adrS S)) = l.mergeSort leS := by
  unfold sortI
  rw [List.map_mergeSort (s := leS) (fun a _ b _ => le_sA _ a b), map_sA S h]
theorem ableL_mem {S : List SiT} {R : RpM} {n : Int} {s : SiT} (h : s ∈ ableL S R n) : s ∈ S ∧ fndS S s.1 = s ∧ 0 < capR R s.1 n := by
  obtain ⟨h1, h2⟩ := List.mem_filter.1 h
  exact ⟨(byId_mem h1).1, (byId_mem h1).2, by simpa [canS] using h2⟩
theorem siE_len (l : List SiT) : ∀ e ∈ l.map siE, e.length = 3 := fun e he => by obtain ⟨s, _, rfl⟩ := List.mem_map.1 he; rfl
theorem free_siE (l : List SiT) : ∀ c ∈ (l.map siE).flatten, FreeT c := fun c hc => by
  obtain ⟨e, he, hc⟩ := List.mem_flatten.1 hc
  obtain ⟨s, _, rfl⟩ := List.mem_map.1 he
  simp only [siE, siC, List.mem_cons, List.not_mem_nil, or_false] at hc
  rcases hc with rfl | rfl | rfl <;> exact .val _
theorem free_sT5 {lk lk2 : Value → Option TV} {es es2 : List (Value × TV × Nat)} {ck ck2 n : Nat} {S : List SiT} {st : List Nat} {R : RpM} (h : SitesOk lk es ck S st) (h2 : RepsOk lk2 es2 R) : ∀ o ∈ (sT5 lk lk2 es es2 ck ck2 n).objs, FreeO o := fun o ho => by
  simp only [sT5, List.mem_cons, List.not_mem_nil, or_false] at ho
  rcases ho with rfl | rfl | rfl
  · intro c hc
    simp only [List.mem_cons, List.not_mem_nil, or_false] at hc
    rcases hc with rfl | rfl <;> exact .map _
  · intro e he
    rw [h.ents] at he
    have go : ∀ (S : List SiT) (st : List Nat), e ∈ List.zipWith (fun s b => (encI s.1, siT s, b)) S st → FreeT e.2.1 := by
      intro S
      induction S with
      | nil => intro st he; simp at he
      | cons s S ih =>
        intro st he
        cases st with
        | nil => simp at he
        | cons b st =>
          rcases List.mem_cons.1 he with rfl | he
          · refine .agg fun c hc => ?_
            simp only [siC, List.mem_cons, List.not_mem_nil, or_false] at hc
            rcases hc with rfl | rfl | rfl <;> exact .val _
          · exact ih st he
    exact go S st he
  · intro e he
    obtain ⟨r, hr⟩ := h2.ents e he
    rw [hr]
    refine .agg fun c hc => ?_
    simp only [rpC, List.mem_cons, List.not_mem_nil, or_false] at hc
    rcases hc with rfl | rfl <;> exact .val _
theorem ss_ok {lk lk2 : Value → Option TV} {es es2 : List (Value × TV × Nat)} {ck ck2 : Nat} {S : List SiT} {st : List Nat} {R : RpM} (h : SitesOk lk es ck S st) (h2 : RepsOk lk2 es2 R) (l : List SiT) (hl : l.length ≤ 8) (hm : ∀ s ∈ l, fndS S s.1 = s) :
    ∀ ro ys T K, ssW (sT6 lk lk2 es es2 ck ck2 (l.map siE).length (l.map siE).flatten) (sT6 lk lk2 es es2 ck ck2 (l.map siE).length ((l.mergeSort leS).map siE).flatten) (l.map siE).length ro ys T K → VCx Try.prog noGl ro ssF ys T K := by
  rintro ro ys T K ⟨⟨rfl, rfl, rfl⟩, hk⟩
  have hs := ssort_vcx (G := noGl) (adrS S) (l.map icS) (by rw [List.length_map]; omega)
  rw [ableS_sort hm, map_sA S hm, show (l.map icS).length = (l.map siE).length by simp] at hs
  have e1 : ∀ (f g : Nat → Option Nat) (l : List SiT), VO.ren f g (.row (l.map siE).flatten) = .row (l.map siE).flatten := fun f g l => by
    have : renL f g (l.map siE).flatten = (l.map siE).flatten := by
      induction l with
      | nil => rfl
      | cons a l ih => rw [List.map_cons, List.flatten_cons, renL_map, List.map_append, ← renL_map, ← renL_map, ih]; rfl
    simp only [VO.ren, this]
  refine (VCx.lift (xs := [.row 3 0 0 (l.map siE).length, .fn (.func 35) [] []]) [3] [] gvals_noGl (by decide) List.nodup_nil (fun k hk => ?_) (by simp) (fun _ _ => Nat.zero_le _) rfl ?_ (Q := fun x T' => x = .val (.tuple #[]) ∧ T' = ⟨[.row ((l.mergeSort leS).map siE).flatten], []⟩) (fun x T' hq => ?_)).mono ?_
  · simp only [List.mem_cons, List.not_mem_nil, or_false] at hk
    subst hk
    exact ⟨_, rfl, rfl⟩
  · have hg : VT.give (sT6 lk lk2 es es2 ck ck2 (l.map siE).length (l.map siE).flatten) [3] [] = ⟨[.row (l.map siE).flatten], []⟩ := by
      simp only [VT.give, sT6, List.map_cons, List.map_nil, List.getElem?_cons_zero, List.getElem?_cons_succ, Option.getD_some, e1]
    rw [hg]
    exact hs
  · rw [hq.2]; exact ⟨Nat.le_refl 1, Nat.zero_le _⟩
  · rintro x T' ⟨y, T2, ⟨rfl, rfl⟩, rfl, rfl⟩
    have hb : VT.back (sT6 lk lk2 es es2 ck ck2 (l.map siE).length (l.map siE).flatten) [3] [] ⟨[.row ((l.mergeSort leS).map siE).flatten], []⟩ = sT6 lk lk2 es es2 ck ck2 (l.map siE).length ((l.mergeSort leS).map siE).flatten := by
      simp only [VT.back, sT6, List.length_cons, List.map_cons, List.map_nil, e1, giveBack]
      simp []
    rw [hb]
    exact hk
theorem ab_vcx {lk lk2 : Value → Option TV} {es es2 : List (Value × TV × Nat)} {ck ck2 : Nat} {S : List SiT} {st : List Nat} {R : RpM} (h : SitesOk lk es ck S st) (h2 : RepsOk lk2 es2 R) (n : Int) :
    VCx Try.prog noGl 0 abF [.ptr 0 0, .val (.int .i64 n)] (sT lk lk2 es es2 ck ck2) fun x T' => x = .vec 3 ((ableS S R n).map siE) .none ∧ T' = sT lk lk2 es es2 ck ck2 := by
  have hal : ∀ ro ys T K, tabW (sT lk lk2 es es2 ck ck2).objs [.ptr 0 0] (.vec 3 ((byId S).map siE) .none) ro ys T K → VCx Try.prog noGl ro alF ys T K :=
    tabW_ok h h2 rfl (fun f g => by simp only [TV.ren, renLL_site, Tok.ren]) (al_vcx h fun f g => h2.ren ck2 f g)
  have hlb : (byId S).length ≤ 8 := by unfold byId; rw [List.length_map, idsOf_len]; exact h.few
  have hla : (ableL S R n).length ≤ 8 := Nat.le_trans (List.length_filter_le _ _) hlb
  have e1 := h.ren (Go.Proofs.Ytgconkbnokbinaa.keep 3) (Go.Proofs.Ytgconkbnokbinaa.keep 0)
  have e2 := h2.ren ck2 (Go.Proofs.Ytgconkbnokbinaa.keep 3) (Go.Proofs.Ytgconkbnokbinaa.keep 0)
  unfold kI at e1 e2
  have hloop := ab_loop (ck2 := ck2) h h2 n
  by_cases hL : ableL S R n = []
  · have hS : ableS S R n = [] := by rw [ableS, hL]; simp
    rw [hL] at hloop
    refine VCx.keepQ 3 0 (Nat.le_refl _) (Nat.le_refl _) (vcallF_is mixedB_Try bodiesB_Try (specs_ok fun p hp => ?_) hloop (ev_ab0 lk lk2 es es2 ck ck2 ((byId S).map siE) n _) ?_)
    · simp only [List.mem_cons, List.not_mem_nil, or_false] at hp
      rcases hp with rfl | rfl
      · exact hal
      · exact ss0_ok
    · refine ⟨⟨rfl, rfl, rfl⟩, rfl, ⟨rfl, rfl, rfl, ⟨rfl, trivial⟩, rfl, rfl, rfl⟩, ⟨rfl, rfl⟩, ?_, ?_⟩
      · rw [hS]; rfl
      · simp only [VT.keep, List.take_succ_cons, List.take_zero, List.map_cons, List.map_nil, e1, e2, sT, kI]
        rfl
  · have hpos : 0 < ((ableL S R n).map siE).length := by rw [List.length_map]; exact List.length_pos_iff.2 hL
    have hlen : ((ableS S R n).map siE).length = ((ableL S R n).map siE).length := by simp [ableS, List.length_mergeSort]
    have hlp : LsOk Try.prog noGl (ablL1 lk lk2 es es2 ck ck2 n ((byId S).map siE) ((ableL S R n).map siE) (codeAt Try.prog abF 0)) := specsL_ok fun p hp => by
      obtain rfl := List.mem_singleton.1 hp
      refine loopRow_ok (vs1 := ablV n ((byId S).map siE) ((ableL S R n).map siE) ((byId S).map siE).length) rfl rfl hpos (free_siE _) (free_sT5 h h2) ?_
      intro K hK
      exact ab_round h h2 n K hK
    refine VCx.keepQ 3 0 (Nat.le_refl _) (Nat.le_refl _) ((VCx.freeze (size := 3) (es := (ableS S R n).map siE) (Q := fun T' => T'.keep 3 0 = sT lk lk2 es es2 ck ck2) (vcallF_is mixedB_Try bodiesB_Try (specs_ok fun p hp => ?_) hlp (ev_ab1 lk lk2 es es2 ck ck2 ((byId S).map siE) ((ableL S R n).map siE) ((ableS S R n).map siE) n _) ?_)).mono ?_)
    · simp only [List.mem_cons, List.not_mem_nil, or_false] at hp
      rcases hp with rfl | rfl
      · exact hal
      · exact ss_ok h h2 (ableL S R n) hla fun s hs => (ableL_mem hs).2.1
    · refine ⟨⟨rfl, rfl, rfl⟩, rfl, ⟨rfl, rfl, rfl, ⟨rfl, trivial⟩, rfl, rfl, rfl, rfl⟩, ⟨rfl, rfl, rfl⟩, 3, 0, _, rfl, ?_, ?_⟩
      · rw [← hlen]; exact rowsR_flat rfl (siE_len _)
      · simp only [VT.kill, VT.keep, List.set_cons_succ, List.set_cons_zero, List.take_succ_cons, List.take_zero, List.map_cons, List.map_nil, e1, e2, sT, kI]
        rfl
    · rintro x T' ⟨rfl, hq⟩
      exact ⟨by simp only [TV.ren, renLL_site, Tok.ren], hq⟩
end Go.Proofs.Ytgconkbnokbinaa
