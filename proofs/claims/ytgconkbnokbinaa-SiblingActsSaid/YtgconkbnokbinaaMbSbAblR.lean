/- Siblings: able's loop. -/
import Derived.Test.YtgconkbnokbinaaMbSbAblL
namespace Go.Proofs.Ytgconkbnokbinaa
open Go.RowKit Go.Maps Go.Sort

def ablL (lk lk2 : Value → Option TV) (es es2 : List (Value × TV × Nat)) (ck ck2 : Nat) (n : Int) (A L : List (List TV)) (c0 : Code) : Nat → Option (LSpec × Code) := specsL [(0, loopL 31 ablK [(5, 3)] (ablV n A [] 0) (sT5 lk lk2 es es2 ck ck2 0) fun K => K .normal (slotsN 31 ablK (ablV n A L A.length)) (sT5 lk lk2 es es2 ck ck2 L.length) [], c0)]
set_option maxRecDepth 100000 in
theorem opure_site {x i : Operand} {l : List (Nat × TV)} {L : List (List TV)} {tok : Tok} {k : IntKind} {z : Int} {e : List TV} (hx : evOf noGl l x = .vec 3 L tok) (hz : evOf noGl l i = .val (.int k z)) (h0 : 0 ≤ z) (he : L[z.toNat]? = some e) :
    OPure Try.prog noGl (.indexAddr 38 x i) l (.elt e) := by
  obtain ⟨inf, i_at, i_size, _, _⟩ := siteInf_ex
  exact opure_index (inf := inf) Try.underlying38 i_at (by rw [i_size]; exact hx) hz h0 he
theorem renLL_site (f g : Nat → Option Nat) : ∀ l : List SiT, renLL f g (l.map siE) = l.map siE
  | [] => rfl
  | a :: l => by simp only [List.map_cons, renLL, renLL_site f g l]; rfl
set_option maxRecDepth 100000 in
theorem ab_round {lk lk2 : Value → Option TV} {es es2 : List (Value × TV × Nat)} {ck ck2 : Nat} {S : List SiT} {st : List Nat} {R : RpM} (h : SitesOk lk es ck S st) (h2 : RepsOk lk2 es2 R) (n : Int) (K : KX)
    (hK : K .normal (slotsN 31 ablK (ablV n ((byId S).map siE) ((ableL S R n).map siE) ((byId S).map siE).length)) (sT5 lk lk2 es es2 ck ck2 ((ableL S R n).map siE).length) []) : VWx Try.prog noGl none 0 (codeAt Try.prog abF 0) (slotsN 31 ablK (ablV n ((byId S).map siE) [] 0)) (sT5 lk lk2 es es2 ck ck2 0) [] K := by
  have hfew := h.few
  have hlb : (byId S).length ≤ 8 := by unfold byId; rw [List.length_map, idsOf_len]; exact hfew
  have e1 := h.ren (Go.Proofs.Ytgconkbnokbinaa.keep 3) (Go.Proofs.Ytgconkbnokbinaa.keep 1)
  have e2 := h2.ren ck2 (Go.Proofs.Ytgconkbnokbinaa.keep 3) (Go.Proofs.Ytgconkbnokbinaa.keep 1)
  unfold kI at e1 e2
  let B := byId S
  have hBl : B.length ≤ 8 := hlb
  let F : Nat → List SiT := fun j => (B.take j).filter (canS R n)
  let sl : Nat → List TV := fun j => ablV n (B.map siE) ((F j).map siE) j
  let TT : Nat → VT := fun j => sT5 lk lk2 es es2 ck ck2 ((F j).map siE).length
  let Post : Exit → List TV → VT → Prop := fun e vs T => e = .normal ∧ vs = sl B.length ∧ T = TT B.length
  refine loopK (f := abF) (id := 0) (by kernel_rfl) 31 ablK (fun j => B.length - j) sl TT (fun j => j ≤ B.length) 3 1 (fun _ _ => ⟨Nat.le_refl _, Nat.le_refl _⟩)
    Post (fun j hj => ?_) 0 (Nat.zero_le _) K (fun e vs T ⟨h1, h2, h3⟩ => ?_)
  · by_cases hlt : j < B.length
    · have hs : B[j]? = some B[j] := List.getElem?_eq_getElem hlt
      generalize B[j] = s at hs
      obtain ⟨i, a, c⟩ := s
      have hw := wrapN j (by omega)
      have hstep := able_step (R := R) (n := n) hs
      have hfl := able_len B R n j
      refine vx_is mixedB_Try bodiesB_Try (specs_ok fun p hp => by obtain rfl := List.mem_singleton.1 hp; exact cpW_ok h h2 i n) lsOk_none (ev_abA lk lk2 es es2 ck ck2 (B.map siE) ((F j).map siE) n i a c (capR R i n) j _) ?_
      refine condT (decide_eq_true (by rw [List.length_map]; omega)) ⟨opure_site rfl rfl (Int.natCast_nonneg _) (by simp only [Int.toNat_natCast]; rw [List.getElem?_map, hs]; rfl), ⟨rfl, rfl, rfl⟩, ?_⟩
      cases hc : decide (capR R i n > 0)
      · have hcan : canS R n (i, a, c) = false := hc
        have hF : F (j + 1) = F j := by simp only [F]; rw [hstep, hcan]; simp
        refine condF rfl ⟨rfl, rfl, j + 1, hlt, by simp only; omega, .inr ⟨?_, ?_⟩⟩
        · simp only [VT.keep, List.take_succ_cons, List.take_zero, List.map_cons, List.map_nil, e1, e2]
          simp only [TT, hF, sT5, List.length_map]
          rfl
        · simp only [renL, TV.ren, renLL_site, Tok.ren, Go.Proofs.Ytgconkbnokbinaa.keep]
          simp only [sl, ablV, hF, hw, List.length_map]
          rfl
      · have hcan : canS R n (i, a, c) = true := hc
        have hF : F (j + 1) = F j ++ [(i, a, c)] := by simp only [F]; rw [hstep, hcan]; simp
        have hra : renLL (Go.Proofs.Ytgconkbnokbinaa.keep 3) (Go.Proofs.Ytgconkbnokbinaa.keep 1) ((F j).map siE ++ [siC i a c]) = (F j).map siE ++ [siC i a c] := by have q := renLL_site (Go.Proofs.Ytgconkbnokbinaa.keep 3) (Go.Proofs.Ytgconkbnokbinaa.keep 1) (F j ++ [(i, a, c)]); rw [List.map_append] at q; exact q
        have hfl2 : (F j).length ≤ 8 := Nat.le_trans hfl hBl
        refine condT rfl ⟨oturn_site (es2 := [siC i a c]) (T1 := ⟨[.cells [.map 1, .map 2], .map kI lk es ck, .map kI lk2 es2 ck2, .cells (siC i a c)], [(((F j).map siE).length, 3, true)]⟩) (by simp [evOf, evFind, vadopt, kI]; rfl) rfl (by simp only [List.length_cons, List.length_nil, List.length_map]; omega), rfl, rfl, j + 1, hlt, by simp only; omega, .inr ⟨?_, ?_⟩⟩
        · simp only [VT.keep, List.take_succ_cons, List.take_zero, List.map_cons, List.map_nil, e1, e2]
          simp only [TT, hF, sT5, List.length_map, List.length_append]
          rfl
        · simp only [renL, TV.ren, renLL_site, hra, Tok.ren, Go.Proofs.Ytgconkbnokbinaa.keep]
          simp only [sl, ablV, hF, hw, List.length_map, List.length_append, List.map_append]
          rfl
    · obtain rfl : j = B.length := by omega
      refine vx_is mixedB_Try bodiesB_Try (specs_ok fun p hp => by obtain rfl := List.mem_singleton.1 hp; exact cpW_ok h h2 0 n) lsOk_none (ev_abA lk lk2 es es2 ck ck2 (B.map siE) ((F B.length).map siE) n 0 0 0 (capR R 0 n) B.length _) ?_
      exact condF (decide_eq_false (by rw [List.length_map]; omega)) ⟨rfl, rfl, rfl, rfl, rfl⟩
  · subst h1 h2 h3
    have ht : F B.length = ableL S R n := by simp only [F, List.take_length]; rfl
    have e1 : sl B.length = ablV n ((byId S).map siE) ((ableL S R n).map siE) ((byId S).map siE).length := by simp only [sl, ht, List.length_map]; rfl
    have e2 : TT B.length = sT5 lk lk2 es es2 ck ck2 ((ableL S R n).map siE).length := by simp only [TT, ht]
    rw [e1, e2]
    exact hK
theorem ab_loop {lk lk2 : Value → Option TV} {es es2 : List (Value × TV × Nat)} {ck ck2 : Nat} {S : List SiT} {st : List Nat} {R : RpM} (h : SitesOk lk es ck S st) (h2 : RepsOk lk2 es2 R) (n : Int) : LsOk Try.prog noGl (ablL lk lk2 es es2 ck ck2 n ((byId S).map siE) ((ableL S R n).map siE) (codeAt Try.prog abF 0)) := specsL_ok fun p hp => by
  obtain rfl := List.mem_singleton.1 hp
  exact loopL_ok fun K hK => ab_round h h2 n K hK
end Go.Proofs.Ytgconkbnokbinaa
