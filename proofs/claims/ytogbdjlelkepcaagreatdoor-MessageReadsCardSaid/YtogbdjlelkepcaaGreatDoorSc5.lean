/- Part 5 of the proof of messageReadsCard_holds: MsS, Vsu, MsT ... No condition. -/
import Derived.Test.YtogbdjlelkepcaaGreatDoorSc1
import Derived.Test.YtogbdjlelkepcaaGreatDoorSc2
import Derived.Test.YtogbdjlelkepcaaGreatDoorSc3
import Derived.Test.YtogbdjlelkepcaaGreatDoorSc4
set_option maxRecDepth 100000
namespace Go.Proofs.YtogbdjlelkepcaaGreatDoor
open Go.RowKit

theorem prW_ok : ∀ ro ys T K, prW ro ys T K → VCx Tryz.prog noGl ro pRdF ys T K := by
 intro ro ys T K hw
 unfold prW at hw
 split at hw
 ·rename_i k
  split at hw
  ·rename_i b a e ho
   obtain ⟨⟨hro, hb⟩, hk⟩ := hw
   refine VCx.at1 (Q := fun x o' l' => x = prX b e ∧ o' = srcO (prB b e) (prA b e a) (prE b e) ∧ l' = []) gvals_noGl (Nat.le_of_ble_eq_true hro) ho rfl (srcO_ren hb a e _ _) (ys1 := [.ptr 0 0]) (by simp [renL, TV.ren, nameIn]) ((prd_vcx hb a e).mono fun x T' ⟨h1, h2⟩ => ⟨_, _, h2, h1, rfl, rfl⟩) ?_
   rintro x o' l' ⟨rfl, rfl, rfl⟩
   rw [srcO_ren (prB_is hb)]
   simpa [TV.ren, prX, renL] using hk
  ·exact hw.elim
 ·exact hw.elim
theorem qrW_ok : ∀ ro ys T K, qrW ro ys T K → VCx Tryz.prog noGl ro qRdF ys T K := by
 intro ro ys T K hw
 unfold qrW at hw
 split at hw
 ·rename_i j
  split at hw
  ·rename_i B n e ho
   obtain ⟨⟨hro, hB, hn⟩, hk⟩ := hw
   refine VCx.at1 (Q := fun x o' l' => x = prX (remB B n) e ∧ o' = rsO B (rpN B n e) (prE (remB B n) e) ∧ l' = []) gvals_noGl (Nat.le_of_ble_eq_true hro) ho rfl (rsO_ren hB n e _ _) (ys1 := [.ptr 0 0]) (by simp [renL, TV.ren, nameIn]) ((qrd_vcx hB hn e).mono fun x T' ⟨h1, h2⟩ => ⟨_, _, h2, h1, rfl, rfl⟩) ?_
   rintro x o' l' ⟨rfl, rfl, rfl⟩
   rw [rsO_ren hB]
   simpa [TV.ren, prX, renL] using hk
  ·exact hw.elim
 ·exact hw.elim
def pfGo : Nat → Bs → List (Int × Int) → Option (List (Int × Int))
 | 0, _, _ => none
 | k + 1, b, acc => bif decide (leB b 0 > 0) then (bif prOk b 0 then pfGo k (prB b 0) (acc ++ [(prAd b 0, prLn b 0)]) else none) else some acc
def pfP (b : Bs) : Option (List (Int × Int)) := pfGo (b.length + 1) b []
def pfL (b : Bs) : Bs := ((pfP b).getD []).map pxE
def pfO (b : Bs) : Bool := (pfP b).isSome
def pfX (b : Bs) : TV := .tup [.vec 2 (pfL b) .none, .val (.bool (pfO b))]
theorem le0 (b : Bs) : leB b 0 = b.length := rfl
theorem prOk_e {b : Bs} (h : prOk b 0 = true) : prE b 0 = 0 := by
 simp only [prOk, Bool.and_eq_true, decide_eq_true_eq] at h
 simp only [prE, h.1, cond_true, h.2]
theorem tkR_le {n : Int} {b : Bs} {e : Int} : (tkR n b e).length ≤ b.length := by
 unfold tkR; cases tkOk n b e
 ·exact Nat.le_refl _
 ·simp only [cond_true, List.length_drop]; omega
theorem prB_lt {b : Bs} (hl : leB b 0 > 0) : (prB b 0).length < b.length := by
 have h1 : (tkR 1 b 0).length < b.length := by
  rw [le0] at hl
  have hk : tkOk 1 b 0 = true := by simp only [tkOk, decide_true, decide_eq_true (show (1 : Int) ≤ b.length by omega)]; rfl
  unfold tkR
  rw [hk]
  simp only [cond_true, List.length_drop]
  omega
 unfold prB; cases prG b 0
 ·exact h1
 ·exact Nat.lt_of_le_of_lt tkR_le h1
theorem pfGo_fuel : ∀ (k j : Nat) (b : Bs) (acc : List (Int × Int)), b.length < k → b.length < j → pfGo k b acc = pfGo j b acc
 | 0, _, _, _, h, _ => absurd h (Nat.not_lt_zero _)
 | _, 0, _, _, _, h => absurd h (Nat.not_lt_zero _)
 | k + 1, j + 1, b, acc, h1, h2 => by
  unfold pfGo
  by_cases hl : leB b 0 > 0
  ·have := prB_lt hl
   rw [decide_eq_true hl, pfGo_fuel k j (prB b 0) _ (by omega) (by omega)]
  ·rw [decide_eq_false hl]; rfl
theorem pfGo_step {b : Bs} {acc : List (Int × Int)} (hl : leB b 0 > 0) (ho : prOk b 0 = true) : pfGo (b.length + 1) b acc = pfGo ((prB b 0).length + 1) (prB b 0) (acc ++ [(prAd b 0, prLn b 0)]) := by
 have := prB_lt hl
 rw [pfGo_fuel ((prB b 0).length + 1) b.length (prB b 0) _ (by omega) (by omega)]
 simp only [pfGo, decide_eq_true hl, ho, cond_true]
theorem pfGo_bad {b : Bs} {acc : List (Int × Int)} (hl : leB b 0 > 0) (ho : prOk b 0 = false) : pfGo (b.length + 1) b acc = none := by
 simp only [pfGo, decide_eq_true hl, ho, cond_true, cond_false]
theorem pfGo_end {b : Bs} {acc : List (Int × Int)} (hl : ¬ leB b 0 > 0) : pfGo (b.length + 1) b acc = some acc := by
 simp only [pfGo, decide_eq_false hl, cond_false]
theorem apInf_ex : ∃ inf : TypeInfo, Tryz.prog.info? 186 = some inf ∧ inf.size = 2 ∧ inf.bytes + 1 ≤ 1000 ∧ inf.zero = some (.agg #[.int .u32 0, .int .i64 0]) :=
 ⟨(Tryz.prog.info? 186).getD default, by kernel_rfl, by kernel_rfl, Nat.le_of_ble_eq_true (by kernel_rfl), by kernel_rfl⟩
theorem oturn_px {T T1 : VT} {s x : Operand} {l : List (Nat × TV)} {es es2 : List (List TV)} {k n : Nat} {bn : Bool} (hs : vadopt T 2 (evOf noGl l s) = some (es, k, n, bn, T1)) (hx : srcOf 2 (evOf noGl l x) = some es2) (hb : es.length + es2.length ≤ 1000001) :
    OTurn Tryz.prog noGl 0 T (.call ⟨.builtin .append, #[s, x], #[58, 58]⟩) l (.vec 2 (es ++ es2) (.tail k (n + es2.length))) { T1 with tails := T1.tails.set k (n + es2.length, 2, bn) } := by
  obtain ⟨inf, i1, i2, i3, i4⟩ := apInf_ex
  have h := oturn_app (inf := inf) (P := Tryz.prog) (G := noGl) (ro := 0) (T := T) (T1 := T1) (t := 58) (tx := 58) (s := s) (x := x) (l := l) (es := es) (es2 := es2) (k := k) (n := n) (bn := bn) Tryz.underlying58 i1 i4 (by rw [i2]; rfl) (by rw [i2]; decide) (by kernel_rfl) (by rw [i2]; exact hs) (by rw [i2]; exact hx)
    (by have h1 := i3
        have h2 := Nat.mul_le_mul hb h1
        omega)
  rw [i2] at h
  exact h
theorem renLL_px (f g : Nat → Option Nat) : ∀ l : List (Int × Int), renLL f g (l.map pxE) = l.map pxE
 | [] => rfl
 | a :: l => by simp only [List.map_cons, renLL, renLL_px f g l]; rfl
theorem pf_len : ∀ (l : List (Int × Int)) p, ((l ++ [p]).map pxE) = l.map pxE ++ [pxE p] := fun l p => by rw [List.map_append]; rfl
def ppPost (O : Bs → Int → Int → VO) (b0 : Bs) (e : Exit) (vs : List TV) (T : VT) : Prop :=
 (∃ (acc : List (Int × Int)) (bz : Bs) (az ez : Int), pfP b0 = some acc ∧ e = .normal ∧ vs = ppV (acc.map pxE) ∧ T = ⟨[O bz az ez], [(acc.length, 2, true)]⟩) ∨
 (∃ (Lz bz : Bs) (az ez cz dz : Int), pfP b0 = none ∧ e = .ret ∧ vs = ppV Lz ∧ T = ⟨[O bz az ez, .cells [.val (.int .u32 cz), .val (.int .i64 dz)]], [(Lz.length, 2, true)]⟩)
theorem ppPost_ok {O : Bs → Int → Int → VO} {b0 : Bs} {K : KX} (hK : ppR O (pfL b0) (pfO b0) K) {e : Exit} {vs : List TV} {T : VT} (h : ppPost O b0 e vs T) : K e (slotsN 25 ppK vs) T [] := by
 rcases h with ⟨acc, bz, az, ez, h1, rfl, rfl, rfl⟩ | ⟨Lz, bz, az, ez, cz, dz, h1, rfl, rfl, rfl⟩
 ·have := hK bz [] az ez 0 0
  simp only [pfO, h1, Option.isSome_some, cond_true, pfL, Option.getD_some, List.length_map] at this
  exact this
 ·have := hK bz Lz az ez cz dz
  simp only [pfO, h1, Option.isSome_none, cond_false] at this
  exact this
structure PSt where
 b : Bs
 a : Int
 acc : List (Int × Int)
theorem pp_round {b0 : Bs} (h0 : IsB b0) (K : KX) (hK : ppR srcO (pfL b0) (pfO b0) K) : VWx Tryz.prog noGl none 0 (codeAt Tryz.prog pPaF 0) (slotsN 25 ppK (ppV [])) ⟨[srcO b0 0 0], [(0, 2, true)]⟩ [] K := by
  let sl : PSt → List TV := fun s => ppV (s.acc.map pxE)
  let TT : PSt → VT := fun s => ⟨[srcO s.b s.a 0], [(s.acc.length, 2, true)]⟩
  refine loopK (f := pPaF) (id := 0) (by kernel_rfl) 25 ppK (fun s : PSt => s.b.length) sl TT (fun s => IsB s.b ∧ s.acc.length + s.b.length ≤ b0.length ∧ pfGo (s.b.length + 1) s.b s.acc = pfP b0) 1 1 (fun _ _ => ⟨Nat.le_refl _, Nat.le_refl _⟩)
    (ppPost srcO b0) (fun s hs => ?_) ⟨b0, 0, []⟩ ⟨h0, by simp, rfl⟩ K (fun e vs T hq => ppPost_ok hK hq)
  obtain ⟨b, a, acc⟩ := s
  obtain ⟨hb, hlen, hgo⟩ := hs
  have hsm := h0.small
  simp only at hb hlen hgo
  have hS : SpecsOk Tryz.prog noGl (specs [(wLeF, slW), (pRdF, prW)]) := specs_ok fun p hp => by
    rcases List.mem_cons.1 hp with rfl | hp; exact wLe_ok
    obtain rfl := List.mem_singleton.1 hp; exact prW_ok
  have hv := ev_ppA b (acc.map pxE) a
  rw [List.length_map] at hv
  refine vx_is mixedB_Tryz bodiesB_Tryz hS lsOk_none (hv _) ?_
  refine ⟨⟨rfl, hb⟩, ?_⟩
  by_cases hl : leB b 0 > 0
  · refine condT (decide_eq_true hl) ⟨⟨rfl, hb⟩, ?_⟩
    cases ho : prOk b 0
    · exact condT rfl ⟨rfl, rfl, .inr ⟨acc.map pxE, _, _, _, _, _, by rw [← hgo]; exact pfGo_bad hl ho, rfl, by simp only [ppV, List.length_map], by rw [List.length_map]; rfl⟩⟩
    · have hlt := prB_lt hl
      have he := prOk_e ho
      try delta zzy12
      rw [he]
      refine condF rfl ⟨?_, rfl, rfl, ⟨prB b 0, prA b 0 a, acc ++ [(prAd b 0, prLn b 0)]⟩, ⟨prB_is hb, by simp only [List.length_append, List.length_cons, List.length_nil]; omega, by rw [← hgo]; exact (pfGo_step hl ho).symm⟩, hlt, .inr ⟨?_, ?_⟩⟩
      · have h := oturn_px (T := ⟨[srcO (prB b 0) (prA b 0 a) 0, .cells [.val (.int .u32 (prAd b 0)), .val (.int .i64 (prLn b 0))]], [(acc.length, 2, true)]⟩) (T1 := ⟨[srcO (prB b 0) (prA b 0 a) 0, .cells [.val (.int .u32 (prAd b 0)), .val (.int .i64 (prLn b 0))]], [(acc.length, 2, true)]⟩) (s := .tmp 20) (x := .tmp 22) (l := [(20, .vec 2 (acc.map pxE) (.tail 0 acc.length)), (22, .vec 2 [pxE (prAd b 0, prLn b 0)] .full)]) (es := acc.map pxE) (es2 := [pxE (prAd b 0, prLn b 0)]) (k := 0) (n := acc.length) (bn := true)
          (by simp [evOf, evFind, vadopt]) rfl (by simp only [List.length_map, List.length_cons, List.length_nil]; omega)
        exact h
      · simp only [VT.keep, List.take_succ_cons, List.take_zero, List.map_cons, List.map_nil]
        rw [show VO.cells [.val (.bool true), .vec 1 (prB b 0) .none, .val (.int .i64 (prA b 0 a)), .val (.int .i64 0)] = srcO (prB b 0) (prA b 0 a) 0 from rfl, srcO_ren (prB_is hb)]
        simp only [TT, List.length_append, List.length_cons, List.length_nil]
      · have e1 := renLL_px (Go.Proofs.YtogbdjlelkepcaaGreatDoor.keep 1) (Go.Proofs.YtogbdjlelkepcaaGreatDoor.keep 1) (acc ++ [(prAd b 0, prLn b 0)])
        rw [pf_len] at e1
        simp only [renL, TV.ren, e1, Tok.ren]
        simp only [sl, ppV, pf_len, List.length_append, List.length_map, List.length_cons, List.length_nil]
        rfl
  · exact condF (decide_eq_false hl) ⟨rfl, rfl, .inl ⟨acc, b, a, 0, by rw [← hgo]; exact pfGo_end hl, rfl, by simp only [ppV, List.length_map], rfl⟩⟩
structure QSt where
 n : Int
 acc : List (Int × Int)
theorem qp_round {B : Bs} (h0 : IsB B) (K : KX) (hK : ppR rsO (pfL B) (pfO B) K) : VWx Tryz.prog noGl none 0 (codeAt Tryz.prog qPaF 0) (slotsN 25 ppK (ppV [])) ⟨[rsO B 0 0], [(0, 2, true)]⟩ [] K := by
  let sl : QSt → List TV := fun s => ppV (s.acc.map pxE)
  let TT : QSt → VT := fun s => ⟨[rsO B s.n 0], [(s.acc.length, 2, true)]⟩
  refine loopK (f := qPaF) (id := 0) (by kernel_rfl) 25 ppK (fun s : QSt => (remB B s.n).length) sl TT (fun s => InB B s.n ∧ s.acc.length + (remB B s.n).length ≤ B.length ∧ pfGo ((remB B s.n).length + 1) (remB B s.n) s.acc = pfP B) 1 1 (fun _ _ => ⟨Nat.le_refl _, Nat.le_refl _⟩)
    (ppPost rsO B) (fun s hs => ?_) ⟨0, []⟩ ⟨⟨Int.le_refl _, Int.natCast_nonneg _, h0.small⟩, by simp [remB], rfl⟩ K (fun e vs T hq => ppPost_ok hK hq)
  obtain ⟨n, acc⟩ := s
  obtain ⟨hn, hlen, hgo⟩ := hs
  have hsm := h0.small
  simp only at hn hlen hgo
  have hS : SpecsOk Tryz.prog noGl (specs [(rLeF, rlW), (qRdF, qrW)]) := specs_ok fun p hp => by
    rcases List.mem_cons.1 hp with rfl | hp; exact rLe_ok
    obtain rfl := List.mem_singleton.1 hp; exact qrW_ok
  have hv := ev_qpA B (acc.map pxE) n
  rw [List.length_map] at hv
  refine vx_is mixedB_Tryz bodiesB_Tryz hS lsOk_none (hv _) ?_
  refine ⟨⟨rfl, h0, hn⟩, ?_⟩
  have hr := rpN_rem hn 0
  have hn2 := rpN_in hn 0
  by_cases hl : leB (remB B n) 0 > 0
  · refine condT (decide_eq_true hl) ⟨⟨rfl, h0, hn⟩, ?_⟩
    cases ho : prOk (remB B n) 0
    · exact condT rfl ⟨rfl, rfl, .inr ⟨acc.map pxE, _, _, _, _, _, by rw [← hgo]; exact pfGo_bad hl ho, rfl, by simp only [ppV, List.length_map], by rw [List.length_map]; rfl⟩⟩
    · have hlt := prB_lt hl
      have he := prOk_e ho
      try delta zzy13 zzy14
      rw [he]
      refine condF rfl ⟨?_, rfl, rfl, ⟨rpN B n 0, acc ++ [(prAd (remB B n) 0, prLn (remB B n) 0)]⟩, ⟨hn2, by simp only [hr, List.length_append, List.length_cons, List.length_nil]; omega, by simp only [hr]; rw [← hgo]; exact (pfGo_step hl ho).symm⟩, by simp only [hr]; exact hlt, .inr ⟨?_, ?_⟩⟩
      · have h := oturn_px (T := ⟨[rsO B (rpN B n 0) 0, .cells [.val (.int .u32 (prAd (remB B n) 0)), .val (.int .i64 (prLn (remB B n) 0))]], [(acc.length, 2, true)]⟩) (T1 := ⟨[rsO B (rpN B n 0) 0, .cells [.val (.int .u32 (prAd (remB B n) 0)), .val (.int .i64 (prLn (remB B n) 0))]], [(acc.length, 2, true)]⟩) (s := .tmp 20) (x := .tmp 22) (l := [(20, .vec 2 (acc.map pxE) (.tail 0 acc.length)), (22, .vec 2 [pxE (prAd (remB B n) 0, prLn (remB B n) 0)] .full)]) (es := acc.map pxE) (es2 := [pxE (prAd (remB B n) 0, prLn (remB B n) 0)]) (k := 0) (n := acc.length) (bn := true)
          (by simp [evOf, evFind, vadopt]) rfl (by simp only [List.length_map, List.length_cons, List.length_nil]; omega)
        exact h
      · simp only [VT.keep, List.take_succ_cons, List.take_zero, List.map_cons, List.map_nil]
        rw [show VO.cells [.vec 1 B .none, .val (.int .i64 (rpN B n 0)), .val (.int .i64 0)] = rsO B (rpN B n 0) 0 from rfl, rsO_ren h0]
        simp only [TT, List.length_append, List.length_cons, List.length_nil]
      · have e1 := renLL_px (Go.Proofs.YtogbdjlelkepcaaGreatDoor.keep 1) (Go.Proofs.YtogbdjlelkepcaaGreatDoor.keep 1) (acc ++ [(prAd (remB B n) 0, prLn (remB B n) 0)])
        rw [pf_len] at e1
        simp only [renL, TV.ren, e1, Tok.ren]
        simp only [sl, ppV, pf_len, List.length_append, List.length_map, List.length_cons, List.length_nil]
        rfl
  · exact condF (decide_eq_false hl) ⟨rfl, rfl, .inl ⟨acc, B, n, 0, by rw [← hgo]; exact pfGo_end hl, rfl, by simp only [ppV, List.length_map], rfl⟩⟩
theorem pp_loop {b : Bs} (h : IsB b) : LsOk Tryz.prog noGl (ppL srcO b (pfL b) (pfO b) (codeAt Tryz.prog pPaF 0)) := specsL_ok fun p hp => by
 obtain rfl := List.mem_singleton.1 hp
 exact loopL_ok fun K hK => pp_round h K hK
theorem qp_loop {b : Bs} (h : IsB b) : LsOk Tryz.prog noGl (ppL rsO b (pfL b) (pfO b) (codeAt Tryz.prog qPaF 0)) := specsL_ok fun p hp => by
 obtain rfl := List.mem_singleton.1 hp
 exact loopL_ok fun K hK => qp_round h K hK
theorem pfL_nil {b : Bs} (h : pfO b = false) : pfL b = [] := by
 unfold pfL pfO at *
 cases hc : pfP b with
 | none => rfl
 | some l => rw [hc] at h; cases h
theorem pfL_ren (b : Bs) (f g : Nat → Option Nat) : renLL f g (pfL b) = pfL b := renLL_px f g _
theorem pf_end {b : Bs} {x : TV} {ok : Bool} (h : ok = pfO b) (hx : x = (bif ok then .tup [.vec 2 (pfL b) (.tail 0 (pfL b).length), .val (.bool true)] else .tup [.val (.slice none 0 0), .val (.bool false)])) : TVle (x.ren (Go.Proofs.YtogbdjlelkepcaaGreatDoor.keep 0) (Go.Proofs.YtogbdjlelkepcaaGreatDoor.keep 0)) (pfX b) := by
 subst h hx
 unfold pfX
 cases h : pfO b
 ·rw [pfL_nil h]
  exact TVle.tup ⟨TVle.nil 2, TVle.refl _, trivial⟩
 ·refine TVle.of_eq ?_
  simp only [cond_true, TV.ren, renL, pfL_ren, Tok.ren]
  rfl
theorem pf_vcx {b : Bs} (hb : IsB b) : VCx Tryz.prog noGl 0 pPaF [.vec 1 b .none] ⟨[], []⟩ fun x T' => x = pfX b ∧ T' = ⟨[], []⟩ := by
 refine VCx.toLe (Q := fun T' => T' = ⟨[], []⟩) (VCx.keepQ 0 0 (Nat.le_refl _) (Nat.le_refl _) (vcallF_is mixedB_Tryz bodiesB_Tryz (specs_ok fun p hp => by obtain rfl := List.mem_singleton.1 hp; exact wRdW_ok) (pp_loop hb) (ev_pp b (pfL b) (pfO b) _) ?_))
 refine ⟨hb, rfl, ⟨rfl, rfl, rfl, ⟨rfl, trivial⟩, rfl, rfl, rfl⟩, fun bz Lz az ez cz dz => ?_⟩
 cases h : pfO b
 ·exact ⟨pf_end h.symm rfl, rfl⟩
 ·exact ⟨pf_end h.symm rfl, rfl⟩
theorem qf_vcx {b : Bs} (hb : IsB b) : VCx Tryz.prog noGl 0 qPaF [.vec 1 b .none] ⟨[], []⟩ fun x T' => x = pfX b ∧ T' = ⟨[], []⟩ := by
 refine VCx.toLe (Q := fun T' => T' = ⟨[], []⟩) (VCx.keepQ 0 0 (Nat.le_refl _) (Nat.le_refl _) (vcallF_is mixedB_Tryz bodiesB_Tryz (specs_ok fun p hp => by obtain rfl := List.mem_singleton.1 hp; exact rRdW_ok) (qp_loop hb) (ev_qp b (pfL b) (pfO b) _) ?_))
 refine ⟨⟨hb, hb.small⟩, rfl, ⟨rfl, rfl, rfl, ⟨rfl, trivial⟩, rfl, rfl, rfl⟩, fun bz Lz az ez cz dz => ?_⟩
 cases h : pfO b
 ·exact ⟨pf_end h.symm rfl, rfl⟩
 ·exact ⟨pf_end h.symm rfl, rfl⟩
theorem pfX_ren (b : Bs) (f g : Nat → Option Nat) : (pfX b).ren f g = pfX b := by
 simp only [pfX, TV.ren, renL, pfL_ren, Tok.ren]
end Go.Proofs.YtogbdjlelkepcaaGreatDoor
namespace Go.Proofs.YtogbdjlelkepcaaGreatDoor
open Go.RowKit

def snU (kind : IntKind) (n : Nat) : Spec := fun ro ys T K => match ys with
 | [.ptr k 0] => match T.objs[k]? with
  | some (.cells [.val (.bool true), .vec 1 b .none, .val (.int .i64 a), .val (.int .i64 e)]) => (Nat.ble ro k = true ∧ IsB b) ∧ ∀ (z : Int) (bz : Bs) (az ez : Int), (z = nmB n b e ∧ bz = tkR n b e ∧ ez = tkE n b e) → K (.val (.int kind z)) { T with objs := T.objs.set k (srcO bz az ez) }
  | _ => False
 | _ => False
def sbU : Spec := fun ro ys T K => match ys with
 | [.ptr k 0, .val (.int .i64 n)] => match T.objs[k]? with
  | some (.cells [.val (.bool true), .vec 1 b .none, .val (.int .i64 a), .val (.int .i64 e)]) => (Nat.ble ro k = true ∧ IsB b) ∧ ∀ (v bz : Bs) (az ez : Int), (v = tkB n b e ∧ bz = tkR n b e ∧ ez = tkE n b e) → K (.vec 1 v .none) { T with objs := T.objs.set k (srcO bz az ez) }
  | _ => False
 | _ => False
def ssubU : Spec := fun ro ys T K => match ys with
 | [.ptr k 0, .val (.int .i64 n)] => match T.objs[k]? with
  | some (.cells [.val (.bool true), .vec 1 b .none, .val (.int .i64 a), .val (.int .i64 e)]) => (Nat.ble ro k = true ∧ IsB b) ∧ ∀ (v bz : Bs) (az ez : Int), (v = tkB n b e ∧ bz = tkR n b e ∧ ez = tkE n b e) → K (.ptr T.objs.length 0) { T with objs := T.objs.set k (srcO bz az ez) ++ [srcO v 0 0] }
  | _ => False
 | _ => False
def srestU : Spec := fun ro ys T K => match ys with
 | [.ptr k 0] => match T.objs[k]? with
  | some (.cells [.val (.bool true), .vec 1 b .none, .val (.int .i64 a), .val (.int .i64 e)]) => (Nat.ble ro k = true ∧ IsB b) ∧ ∀ (v bz : Bs) (az ez : Int), (v = tkB (leB b e) b e ∧ bz = tkR (leB b e) b e ∧ ez = tkE (leB b e) b e) → K (.vec 1 v .none) { T with objs := T.objs.set k (srcO bz az ez) }
  | _ => False
 | _ => False
def rnU (kind : IntKind) (m : Nat) : Spec := fun ro ys T K => match ys with
 | [.ptr j 0] => match T.objs[j]? with
  | some (.cells [.vec 1 B .none, .val (.int .i64 n), .val (.int .i64 e)]) => (Nat.ble ro j = true ∧ IsB B ∧ InB B n) ∧ ∀ (z nz ez : Int), (z = nmB m (remB B n) e ∧ nz = tkN m B n e ∧ ez = tkE m (remB B n) e) → K (.val (.int kind z)) { T with objs := T.objs.set j (rsO B nz ez) }
  | _ => False
 | _ => False
def rbU : Spec := fun ro ys T K => match ys with
 | [.ptr j 0, .val (.int .i64 m)] => match T.objs[j]? with
  | some (.cells [.vec 1 B .none, .val (.int .i64 n), .val (.int .i64 e)]) => (Nat.ble ro j = true ∧ IsB B ∧ InB B n) ∧ ∀ (v : Bs) (nz ez : Int), (v = tkB m (remB B n) e ∧ nz = tkN m B n e ∧ ez = tkE m (remB B n) e) → K (.vec 1 v .none) { T with objs := T.objs.set j (rsO B nz ez) }
  | _ => False
 | _ => False
def rsubU : Spec := fun ro ys T K => match ys with
 | [.ptr j 0, .val (.int .i64 m)] => match T.objs[j]? with
  | some (.cells [.vec 1 B .none, .val (.int .i64 n), .val (.int .i64 e)]) => (Nat.ble ro j = true ∧ IsB B ∧ InB B n) ∧ ∀ (v : Bs) (nz ez : Int), (v = tkB m (remB B n) e ∧ nz = tkN m B n e ∧ ez = tkE m (remB B n) e) → K (.ptr T.objs.length 0) { T with objs := T.objs.set j (rsO B nz ez) ++ [rsO v 0 0] }
  | _ => False
 | _ => False
def rrestU : Spec := fun ro ys T K => match ys with
 | [.ptr j 0] => match T.objs[j]? with
  | some (.cells [.vec 1 B .none, .val (.int .i64 n), .val (.int .i64 e)]) => (Nat.ble ro j = true ∧ IsB B ∧ InB B n) ∧ ∀ (v : Bs) (nz ez : Int), (v = tkB (leB (remB B n) e) (remB B n) e ∧ nz = tkN (leB (remB B n) e) B n e ∧ ez = tkE (leB (remB B n) e) (remB B n) e) → K (.vec 1 v .none) { T with objs := T.objs.set j (rsO B nz ez) }
  | _ => False
 | _ => False
theorem snU_le {kind : IntKind} {n : Nat} {ro : Nat} {ys : List TV} {T : VT} {K : TV → VT → Prop} (h : snU kind n ro ys T K) : snW kind n ro ys T K := by
 unfold snU at h
 split at h
 ·split at h
  ·rename_i ho
   unfold snW
   simp only [ho]
   exact ⟨h.1, h.2 _ _ _ _ ⟨rfl, rfl, rfl⟩⟩
  ·exact h.elim
 ·exact h.elim
theorem sbU_le {ro : Nat} {ys : List TV} {T : VT} {K : TV → VT → Prop} (h : sbU ro ys T K) : sbW ro ys T K := by
 unfold sbU at h
 split at h
 ·split at h
  ·rename_i ho
   unfold sbW
   simp only [ho]
   exact ⟨h.1, h.2 _ _ _ _ ⟨rfl, rfl, rfl⟩⟩
  ·exact h.elim
 ·exact h.elim
theorem ssubU_le {ro : Nat} {ys : List TV} {T : VT} {K : TV → VT → Prop} (h : ssubU ro ys T K) : ssubW ro ys T K := by
 unfold ssubU at h
 split at h
 ·split at h
  ·rename_i ho
   unfold ssubW
   simp only [ho]
   exact ⟨h.1, h.2 _ _ _ _ ⟨rfl, rfl, rfl⟩⟩
  ·exact h.elim
 ·exact h.elim
theorem srestU_le {ro : Nat} {ys : List TV} {T : VT} {K : TV → VT → Prop} (h : srestU ro ys T K) : srestW ro ys T K := by
 unfold srestU at h
 split at h
 ·split at h
  ·rename_i ho
   unfold srestW
   simp only [ho]
   exact ⟨h.1, h.2 _ _ _ _ ⟨rfl, rfl, rfl⟩⟩
  ·exact h.elim
 ·exact h.elim
theorem rnU_le {kind : IntKind} {n : Nat} {ro : Nat} {ys : List TV} {T : VT} {K : TV → VT → Prop} (h : rnU kind n ro ys T K) : rnW kind n ro ys T K := by
 unfold rnU at h
 split at h
 ·split at h
  ·rename_i ho
   unfold rnW
   simp only [ho]
   exact ⟨h.1, h.2 _ _ _ ⟨rfl, rfl, rfl⟩⟩
  ·exact h.elim
 ·exact h.elim
theorem rbU_le {ro : Nat} {ys : List TV} {T : VT} {K : TV → VT → Prop} (h : rbU ro ys T K) : rbW ro ys T K := by
 unfold rbU at h
 split at h
 ·split at h
  ·rename_i ho
   unfold rbW
   simp only [ho]
   exact ⟨h.1, h.2 _ _ _ ⟨rfl, rfl, rfl⟩⟩
  ·exact h.elim
 ·exact h.elim
theorem rsubU_le {ro : Nat} {ys : List TV} {T : VT} {K : TV → VT → Prop} (h : rsubU ro ys T K) : rsubW ro ys T K := by
 unfold rsubU at h
 split at h
 ·split at h
  ·rename_i ho
   unfold rsubW
   simp only [ho]
   exact ⟨h.1, h.2 _ _ _ ⟨rfl, rfl, rfl⟩⟩
  ·exact h.elim
 ·exact h.elim
theorem rrestU_le {ro : Nat} {ys : List TV} {T : VT} {K : TV → VT → Prop} (h : rrestU ro ys T K) : rrestW ro ys T K := by
 unfold rrestU at h
 split at h
 ·split at h
  ·rename_i ho
   unfold rrestW
   simp only [ho]
   exact ⟨h.1, h.2 _ _ _ ⟨rfl, rfl, rfl⟩⟩
  ·exact h.elim
 ·exact h.elim
end Go.Proofs.YtogbdjlelkepcaaGreatDoor
namespace Go.Proofs.YtogbdjlelkepcaaGreatDoor
open Go.RowKit

def cvC (b : Bs) (e : Int) : Int := nmB 1 b e
def cvN (b : Bs) (e : Int) : Int := nmB 1 (tkR 1 b e) (tkE 1 b e)
def cvV (b : Bs) (e : Int) : Bs := tkB (cvN b e) (tkR 1 (tkR 1 b e) (tkE 1 b e)) (tkE 1 (tkR 1 b e) (tkE 1 b e))
def cvB (b : Bs) (e : Int) : Bs := tkR (cvN b e) (tkR 1 (tkR 1 b e) (tkE 1 b e)) (tkE 1 (tkR 1 b e) (tkE 1 b e))
def cvZ (b : Bs) (e : Int) : Int := tkE (cvN b e) (tkR 1 (tkR 1 b e) (tkE 1 b e)) (tkE 1 (tkR 1 b e) (tkE 1 b e))
def cpRun : Nat → Bs → Int → List (Int × Bs) → Bs × Int × List (Int × Bs)
 | 0, b, e, acc => (b, e, acc)
 | k + 1, b, e, acc => bif decide (leB b e > 0) then cpRun k (cvB b e) (cvZ b e) (acc ++ [(cvC b e, cvV b e)]) else (b, e, acc)
def cpF (b : Bs) (e : Int) := cpRun (b.length + 1) b e []
def cpE (p : Int × Bs) : List TV := [.val (.int .i64 p.1), .vec 1 p.2 .none]
def cpB (b : Bs) (e : Int) : Bs := (cpF b e).1
def cpZ (b : Bs) (e : Int) : Int := (cpF b e).2.1
def cpS (b : Bs) (e : Int) : List (Int × Bs) := (cpF b e).2.2
def cpL (b : Bs) (e : Int) : Bs := (cpS b e).map cpE
def cpO (b : Bs) (e : Int) : Bool := decide (cpZ b e = 0)
def paGo : Nat → Bs → Int → List (Int × Bs) → Except Int (List (Int × Bs))
 | 0, _, _, _ => .error 0
 | k + 1, b, e, acc => bif decide (leB b e > 0) then (bif decide (cvZ b e = 0) then (bif decide (cvC b e = 2) then (bif cpO (cvV b e) 0 then paGo k (cvB b e) (cvZ b e) (acc ++ cpS (cvV b e) 0) else .error 0) else .error 4) else .error 0) else .ok acc
def paF (b : Bs) (e : Int) := paGo (b.length + 1) b e []
def paO (b : Bs) (e : Int) : Bool := match paF b e with
 | .ok _ => true
 | .error _ => false
def paL (b : Bs) (e : Int) : Bs := match paF b e with
 | .ok l => l.map cpE
 | .error _ => []
def paS (b : Bs) (e : Int) : Int := match paF b e with
 | .ok _ => 0
 | .error s => s

abbrev ntF := 49
abbrev r10F := 52
abbrev capF := 114
abbrev parF := 77
abbrev opF := 47
def tl0 (T : VT) (n s : Nat) : VT := { T with tails := [(n, s, true)] }
def capK : List Nat := [0, 2, 3, 4]
def capV (L : Bs) : List TV := [.ptr 0 0, .val (.slice none 0 0), .val (.bool false), .vec 2 L (.tail 0 L.length)]
def capL (b bz L : Bs) (a e ez : Int) (c0 : Code) : Nat → Option (LSpec × Code) := specsL [(0, loopL 25 capK [(4, 2)] (capV []) ⟨[srcO b a e], [(0, 2, true)]⟩ (fun K => ∀ az : Int, K .normal (slotsN 25 capK (capV L)) ⟨[srcO bz az ez], [(L.length, 2, true)]⟩ []), c0)]
def cpsW : Spec := fun ro ys T K => match ys with
 | [.ptr k 0] => match T.objs[k]? with
  | some (.cells [.val (.bool true), .vec 1 b .none, .val (.int .i64 a), .val (.int .i64 e)]) => (Nat.ble ro k = true ∧ IsB b) ∧ ∀ az : Int, K (.tup [.vec 2 (cpL b e) .none, .val (.bool (cpO b e))]) { T with objs := T.objs.set k (srcO (cpB b e) az (cpZ b e)) }
  | _ => False
 | _ => False
def parK : List Nat := [0, 2, 3, 4, 5]
def parV (L : Bs) (s : Int) : List TV := [.ptr 0 0, .val (.slice none 0 0), .val (.int .i64 s), .val (.bool false), .vec 2 L (.tail 0 L.length)]
def parR (L : Bs) (s : Int) (ok : Bool) (K : KX) : Prop := ∀ (bz Lz by' : Bs) (az ez ay ey : Int), bif ok then K .normal (slotsN 37 parK (parV L 0)) ⟨[srcO bz az ez], [(L.length, 2, true)]⟩ [] else K .ret (slotsN 37 parK (parV Lz s)) ⟨[srcO bz az ez, srcO by' ay ey], [(Lz.length, 2, true)]⟩ []
def parL (b L : Bs) (a e s : Int) (ok : Bool) (c0 : Code) : Nat → Option (LSpec × Code) := specsL [(0, loopL 37 parK [(5, 2)] (parV [] 0) ⟨[srcO b a e], [(0, 2, true)]⟩ (parR L s ok), c0)]
def paW : Spec := fun ro ys T K => match ys with
 | [.ptr k 0] => match T.objs[k]? with
  | some (.cells [.val (.bool true), .vec 1 b .none, .val (.int .i64 a), .val (.int .i64 e)]) => (Nat.ble ro k = true ∧ IsB b) ∧ ∀ (bz : Bs) (az ez : Int), bif paO b e then K (.tup [.vec 2 (paL b e) .none, .val (.int .i64 0), .val (.bool true)]) { T with objs := T.objs.set k (srcO bz az ez) } else K (.tup [.vec 2 [] .none, .val (.int .i64 (paS b e)), .val (.bool false)]) { T with objs := T.objs.set k (srcO bz az ez) }
  | _ => False
 | _ => False
abbrev zzy15 (z0 : Int) (z1 : Int) (b : Bs) : VT := (zz189 (IntKind.wrap IntKind.i64 z0) (IntKind.wrap IntKind.i64 z1) (List.drop (2 : Nat) b) (IntKind.wrap IntKind.i64 z0) (IntKind.wrap IntKind.i64 z1) (List.drop (2 : Nat) b))
abbrev zzy16 (z0 : Int) (z1 : Int) (b : Bs) : VO := (zz11 (IntKind.wrap IntKind.i64 z0) (IntKind.wrap IntKind.i64 z1) (List.drop (2 : Nat) b))
theorem ev_nt (b : Bs) (z0 z1 : Int) (Q : TV → VT → Prop) : vcallF Tryz.prog noGl (specs [(clF, cloneW)]) (tellS [(999998, .dead, none), (10, .elt (bT z0), none), (14, .elt (bT z1), none), (18, .vec 1 (b.drop 2) .none, none)]) 300 noLp 0 ntF [.vec 1 b .none] zz211 Q =
 (bif decide ((↑(List.length b) : Int) < (2 : Int))
 then Q zz191 zz190
 else (OPure Tryz.prog (fun _ => .none) (.indexAddr 22 (.tmp 9) (.const (.int .i64 0))) [(9, (zz2 b))] (zz207 z0) ∧
 (OPure Tryz.prog (fun _ => .none) (.indexAddr 22 (.tmp 13) (.const (.int .i64 1))) [(13, (zz2 b))] (zz207 z1) ∧
 (OPure Tryz.prog (fun _ => .none) (.slice 22 (.tmp 17) (.some (.const (.int .i64 2))) .none .none) [(17, (zz2 b))] (zz2 (List.drop (2 : Nat) b)) ∧
 (IsB (List.drop (2 : Nat) b) ∧
 (((@Eq (Option TV) (.some (zz63 z1)) (.some (zz63 z1))) ∧
 ((@Eq (Option TV) (.some (zz63 z0)) (.some (zz63 z0))) ∧
 True )) ∧
 (bif decide (IntKind.wrap IntKind.i64 z0 ≥ (1 : Int))
 then (bif decide (IntKind.wrap IntKind.i64 z0 ≤ (255 : Int))
 then (bif decide (IntKind.wrap IntKind.i64 z1 ≥ (0 : Int))
 then (bif decide (IntKind.wrap IntKind.i64 z1 ≤ (255 : Int))
 then (bif !decide ((↑(List.length (List.drop (2 : Nat) b)) : Int) ≤ (4075 : Int))
 then Q zz191 (zzy15 z0 z1 b)
 else Q (.tup [(.agg [(zz1 (IntKind.wrap IntKind.i64 z0)), (zz1 (IntKind.wrap IntKind.i64 z1)), (zz2 (List.drop (2 : Nat) b))]), zz133]) ⟨[(zzy16 z0 z1 b), (zzy16 z0 z1 b), (zzy16 z0 z1 b)], []⟩)
 else Q zz191 (zzy15 z0 z1 b))
 else Q zz191 (zzy15 z0 z1 b))
 else Q zz191 (zzy15 z0 z1 b))
 else Q zz191 (zzy15 z0 z1 b)))))))) := by kernel_rfl
abbrev zzy17 (b : Bs) : TV := (zz152 (List.drop (2 : Nat) b) (List.length (List.drop (2 : Nat) b)))
theorem ev_r10 (b : Bs) (z0 z1 : Int) (Q : TV → VT → Prop) : vcallF Tryz.prog noGl noSp (tellS [(999999, .dead, none), (15, .elt (bT z0), none), (21, .elt (bT z0), none), (25, .elt (bT z1), none), (30, .vec 1 (b.drop 2) .none, none), (31, .vec 1 (b.drop 2) (.tail 0 (b.drop 2).length), some fun T => { T with tails := [((b.drop 2).length, 1, false)] })]) 300 noLp 0 r10F [.vec 1 b .none] zz211 Q =
 (bif decide ((↑(List.length b) : Int) < (2 : Int))
 then Q zz191 zz190
 else (bif decide (IntKind.wrap IntKind.i64 ((↑(List.length b) : Int) - (2 : Int)) > (4075 : Int))
 then Q zz191 zz190
 else (OPure Tryz.prog (fun _ => .none) (.indexAddr 22 (.tmp 14) (.const (.int .i64 0))) [(14, (zz2 b))] (zz207 z0) ∧
 (bif eqRes BinOp.eql (keyEq (Value.int IntKind.u8 z0) (Value.int IntKind.u8 (0 : Int)))
 then Q zz191 zz190
 else (OPure Tryz.prog (fun _ => .none) (.indexAddr 22 (.tmp 20) (.const (.int .i64 0))) [(20, (zz2 b))] (zz207 z0) ∧
 (OPure Tryz.prog (fun _ => .none) (.indexAddr 22 (.tmp 24) (.const (.int .i64 1))) [(24, (zz2 b))] (zz207 z1) ∧
 (OPure Tryz.prog (fun _ => .none) (.slice 22 (.tmp 29) (.some (.const (.int .i64 2))) .none .none) [(29, (zz2 b))] (zz2 (List.drop (2 : Nat) b)) ∧
 (OTurn Tryz.prog (fun _ => .none) 1 zz190 (.call ⟨(.builtin .append), #[(.tmp 28), (.tmp 30)], #[22, 22]⟩) [(28, zz210), (30, (zz2 (List.drop (2 : Nat) b)))] (zzy17 b) ⟨[zz62], [((List.length (List.drop (2 : Nat) b)), (1, false))]⟩ ∧
 Q (.tup [(.agg [(zz1 (IntKind.wrap IntKind.i64 z0)), (zz1 (IntKind.wrap IntKind.i64 z1)), (zzy17 b)]), zz133]) ⟨[(.cells [(zz1 (IntKind.wrap IntKind.i64 z0)), (zz1 (IntKind.wrap IntKind.i64 z1)), (zzy17 b)])], [((List.length (List.drop (2 : Nat) b)), (1, false))]⟩)))))))) := by kernel_rfl
theorem ev_cap (b bz L : Bs) (a e ez : Int) (Q : TV → VT → Prop) : vcallF Tryz.prog noGl (specs [(wErF, seW)]) noOra 300 (capL b bz L a e ez (codeAt Tryz.prog capF 0)) 0 capF [.ptr 0 0] (zz209 (srcO b a e)) Q =
 ((codeAt Tryz.prog capF (0 : Nat) = codeAt Tryz.prog capF (0 : Nat)) ∧
 (((@Eq (Option Nat) .none .none) ∧
 ((@Eq (Nat) 0 0) ∧
 ((@Eq (List Nat) [] []) ∧
 (((@Eq (Option TV) (.some zz18) (.some zz18)) ∧
 True ) ∧
 ((@Eq (VT) ⟨[(.cells [zz133, (zz2 b), (zz1 a), (zz1 e)])], [(0, (2, true))]⟩ ⟨[(.cells [zz133, (zz2 b), (zz1 a), (zz1 e)])], [(0, (2, true))]⟩) ∧
 ((@Eq (Bool) true true) ∧
 (@Eq (List TV) [zz30, zz18, zz20, zz187] [zz30, zz18, zz20, zz187]))))))) ∧
 (∀ az : Int, (((@Eq (Bool) true true) ∧
 IsB (bz)) ∧
 Q (.tup [(zz168 L (List.length L)), (zz9 (eqRes BinOp.eql (k6 ez (0 : Int))))]) ⟨[(.cells [zz133, (zz2 bz), (zz1 az), (zz1 ez)])], [((List.length L), (2, true))]⟩)))) := by kernel_rfl
theorem ev_capA (b L : Bs) (p : List TV) (a e : Int) (Q : Exit → List TV → VT → List Nat → Nat → Prop) : vx Tryz.prog noGl (specs [(wLeF, slW), (wU8F, snU .i64 1), (wByF, sbU)]) (tellS [(999999, .dead, none), (20, .vec 2 (L ++ [p]) (.tail 0 (L.length + 1)), some fun T => tl0 T (L.length + 1) 2)]) 300 noLp none 0 (loopAt Tryz.prog capF 0) (slotsN 25 capK (capV L)) ⟨[srcO b a e], [(L.length, 2, true)]⟩ [] (pickS capK Q) =
 (((@Eq (Bool) true true) ∧
 IsB (b)) ∧
 (bif decide (leB b e > (0 : Int))
 then (((@Eq (Bool) true true) ∧
 IsB (b)) ∧
 (∀ z : Int, (∀ bz : Bs, (∀ az : Int, (∀ ez : Int, (((@Eq (Int) (z) (nmB (1 : Nat) b e)) ∧
 ((@Eq (Bs) (bz) (tkR (↑(1 : Nat) : Int) b e)) ∧
 (@Eq (Int) (ez) (tkE (↑(1 : Nat) : Int) b e)))) → (((@Eq (Bool) true true) ∧
 IsB (bz)) ∧
 (∀ z_11 : Int, (∀ bz_12 : Bs, (∀ az_13 : Int, (∀ ez_14 : Int, (((@Eq (Int) (z_11) (nmB (1 : Nat) bz ez)) ∧
 ((@Eq (Bs) (bz_12) (tkR (↑(1 : Nat) : Int) bz ez)) ∧
 (@Eq (Int) (ez_14) (tkE (↑(1 : Nat) : Int) bz ez)))) → (((@Eq (Bool) true true) ∧
 IsB (bz_12)) ∧
 (∀ v : Bs, (∀ bz_17 : Bs, (∀ az_18 : Int, (∀ ez_19 : Int, (((@Eq (Bs) (v) (tkB z_11 bz_12 ez_14)) ∧
 ((@Eq (Bs) (bz_17) (tkR z_11 bz_12 ez_14)) ∧
 (@Eq (Int) (ez_19) (tkE z_11 bz_12 ez_14)))) → (OTurn Tryz.prog (fun _ => .none) 0 ⟨[(.cells [zz133, (zz2 bz_17), (zz1 az_18), (zz1 ez_19)]), (zz23 z v)], [((List.length L), (2, true))]⟩ (.call ⟨(.builtin .append), #[(.tmp 17), (.tmp 19)], #[55, 55]⟩) [(17, (zz168 L (List.length L))), (19, (.vec 2 [[(.val (.int .i64 (z))), (.vec 1 (v) .none)]] .full))] (zz168 (L ++ [p]) (List.length L + (1 : Nat))) ⟨[(.cells [zz133, (zz2 bz_17), (zz1 az_18), (zz1 ez_19)]), (zz23 z v)], [((List.length L + (1 : Nat)), (2, true))]⟩ ∧
 Q .normal [zz30, zz18, zz20, (zz168 (L ++ [p]) (List.length L + (1 : Nat)))] ⟨[(.cells [zz133, (zz2 bz_17), (zz1 az_18), (zz1 ez_19)]), (zz23 z v)], [((List.length L + (1 : Nat)), (2, true))]⟩ [] 25)))))))))))))))))))
 else Q (.exit 0) [zz30, zz18, zz20, (zz168 L (List.length L))] ⟨[(.cells [zz133, (zz2 b), (zz1 a), (zz1 e)])], [((List.length L), (2, true))]⟩ [] 25)) := by kernel_rfl
theorem ev_par (b L : Bs) (a e s : Int) (ok : Bool) (Q : TV → VT → Prop) : vcallF Tryz.prog noGl noSp noOra 300 (parL b L a e s ok (codeAt Tryz.prog parF 0)) 0 parF [.ptr 0 0] (zz209 (srcO b a e)) Q =
 ((codeAt Tryz.prog parF (0 : Nat) = codeAt Tryz.prog parF (0 : Nat)) ∧
 (((@Eq (Option Nat) .none .none) ∧
 ((@Eq (Nat) 0 0) ∧
 ((@Eq (List Nat) [] []) ∧
 (((@Eq (Option TV) (.some zz18) (.some zz18)) ∧
 True ) ∧
 ((@Eq (VT) ⟨[(.cells [zz133, (zz2 b), (zz1 a), (zz1 e)])], [(0, (2, true))]⟩ ⟨[(.cells [zz133, (zz2 b), (zz1 a), (zz1 e)])], [(0, (2, true))]⟩) ∧
 ((@Eq (Bool) true true) ∧
 (@Eq (List TV) zz188 zz188))))))) ∧
 (∀ bz : Bs, (∀ Lz : Bs, (∀ by' : Bs, (∀ az : Int, (∀ ez : Int, (∀ ay : Int, (∀ ey : Int, (bif ok
 then Q (.tup [(zz168 L (List.length L)), zz4, zz133]) ⟨[(.cells [zz133, (zz2 bz), (zz1 az), (zz1 ez)])], [((List.length L), (2, true))]⟩
 else Q (.tup [zz18, (zz1 s), zz20]) ⟨[(.cells [zz133, (zz2 bz), (zz1 az), (zz1 ez)]), (.cells [zz133, (zz2 by'), (zz1 ay), (zz1 ey)])], [((List.length Lz), (2, true))]⟩)))))))))) := by kernel_rfl
theorem ev_parA (b L C : Bs) (a e : Int) (Q : Exit → List TV → VT → List Nat → Nat → Prop) : vx Tryz.prog noGl (specs [(wLeF, slW), (wU8F, snU .i64 1), (wSuF, ssubU), (wErF, seW), (capF, cpsW)]) (tellS [(999999, .dead, none), (35, .vec 2 (L ++ C) (.tail 0 (L.length + C.length)), some fun T => tl0 T (L.length + C.length) 2)]) 300 noLp none 0 (loopAt Tryz.prog parF 0) (slotsN 37 parK (parV L 0)) ⟨[srcO b a e], [(L.length, 2, true)]⟩ [] (pickS parK Q) =
 (((@Eq (Bool) true true) ∧
 IsB (b)) ∧
 (bif decide (leB b e > (0 : Int))
 then (((@Eq (Bool) true true) ∧
 IsB (b)) ∧
 (∀ z : Int, (∀ bz : Bs, (∀ az : Int, (∀ ez : Int, (((@Eq (Int) (z) (nmB (1 : Nat) b e)) ∧
 ((@Eq (Bs) (bz) (tkR (↑(1 : Nat) : Int) b e)) ∧
 (@Eq (Int) (ez) (tkE (↑(1 : Nat) : Int) b e)))) → (((@Eq (Bool) true true) ∧
 IsB (bz)) ∧
 (∀ z_11 : Int, (∀ bz_12 : Bs, (∀ az_13 : Int, (∀ ez_14 : Int, (((@Eq (Int) (z_11) (nmB (1 : Nat) bz ez)) ∧
 ((@Eq (Bs) (bz_12) (tkR (↑(1 : Nat) : Int) bz ez)) ∧
 (@Eq (Int) (ez_14) (tkE (↑(1 : Nat) : Int) bz ez)))) → (((@Eq (Bool) true true) ∧
 IsB (bz_12)) ∧
 (∀ v : Bs, (∀ bz_17 : Bs, (∀ az_18 : Int, (∀ ez_19 : Int, (((@Eq (Bs) (v) (tkB z_11 bz_12 ez_14)) ∧
 ((@Eq (Bs) (bz_17) (tkR z_11 bz_12 ez_14)) ∧
 (@Eq (Int) (ez_19) (tkE z_11 bz_12 ez_14)))) → (((@Eq (Bool) true true) ∧
 IsB (bz_17)) ∧
 (bif eqRes BinOp.neq (k6 ez_19 (0 : Int))
 then Q .ret (zz186 L (List.length L)) ⟨[(.cells [zz133, (zz2 bz_17), (zz1 az_18), (zz1 ez_19)]), (.cells [zz133, (zz2 v), zz4, zz4])], [((List.length L), (2, true))]⟩ [] 37
 else (bif eqRes BinOp.neq (k6 z (2 : Int))
 then Q .ret [zz30, zz18, zz140, zz20, (zz168 L (List.length L))] ⟨[(.cells [zz133, (zz2 bz_17), (zz1 az_18), (zz1 ez_19)]), (.cells [zz133, (zz2 v), zz4, zz4])], [((List.length L), (2, true))]⟩ [] 37
 else (((@Eq (Bool) true true) ∧
 IsB (v)) ∧
 (∀ az_21 : Int, (bif !cpO v (0 : Int)
 then Q .ret (zz186 L (List.length L)) ⟨[(.cells [zz133, (zz2 bz_17), (zz1 az_18), (zz1 ez_19)]), (.cells [zz133, (zz2 (cpB v (0 : Int))), (zz1 az_21), (zz1 (cpZ v (0 : Int)))])], [((List.length L), (2, true))]⟩ [] 37
 else (OTurn Tryz.prog (fun _ => .none) 0 ⟨[(.cells [zz133, (zz2 bz_17), (zz1 az_18), (zz1 ez_19)]), (.cells [zz133, (zz2 (cpB v (0 : Int))), (zz1 az_21), (zz1 (cpZ v (0 : Int)))])], [((List.length L), (2, true))]⟩ (.call ⟨(.builtin .append), #[(.tmp 33), (.tmp 34)], #[55, 55]⟩) [(33, (zz168 L (List.length L))), (34, (zz8 (cpL v (0 : Int))))] (zz168 (L ++ C) (List.length L + List.length C)) ⟨[(.cells [zz133, (zz2 bz_17), (zz1 az_18), (zz1 ez_19)]), (.cells [zz133, (zz2 (cpB v (0 : Int))), (zz1 az_21), (zz1 (cpZ v (0 : Int)))])], [((List.length L + List.length C), (2, true))]⟩ ∧
 Q .normal (zz186 (L ++ C) (List.length L + List.length C)) ⟨[(.cells [zz133, (zz2 bz_17), (zz1 az_18), (zz1 ez_19)]), (.cells [zz133, (zz2 (cpB v (0 : Int))), (zz1 az_21), (zz1 (cpZ v (0 : Int)))])], [((List.length L + List.length C), (2, true))]⟩ [] 37)))))))))))))))))))))))))
 else Q (.exit 0) (zz186 L (List.length L)) ⟨[(.cells [zz133, (zz2 b), (zz1 a), (zz1 e)])], [((List.length L), (2, true))]⟩ [] 37)) := by kernel_rfl
theorem ev_op (b : Bs) (pas : Int) (Q : TV → VT → Prop) : vcallF Tryz.prog noGl (specs [(wRdF, sreadW), (wU8F, snU .i64 1), (wU16F, snU .i64 2), (wU32F, snU .u32 4), (wLeF, slW), (parF, paW)]) (tellS [(999999, .dead, none)]) 300 noLp 0 opF [.vec 1 b .none, .val (.int .i64 pas)] zz211 Q =
 (bif decide ((↑(List.length b) : Int) < (10 : Int))
 then Q zz185 ⟨[zz164, zz165, zz164, zz165], []⟩
 else (IsB (b) ∧
 (((@Eq (Bool) true true) ∧
 IsB (b)) ∧
 (∀ z : Int, (∀ bz : Bs, (∀ az : Int, (∀ ez : Int, (((@Eq (Int) (z) (nmB (1 : Nat) b (0 : Int))) ∧
 ((@Eq (Bs) (bz) (tkR (↑(1 : Nat) : Int) b (0 : Int))) ∧
 (@Eq (Int) (ez) (tkE (↑(1 : Nat) : Int) b (0 : Int))))) → (bif eqRes BinOp.neq (k6 z (4 : Int))
 then Q (zz184 [[(.val (.int .u8 0))], [(.val (.int .u8 4))]]) ⟨[zz164, (zz183 [[(.val (.int .u8 0))], [(.val (.int .u8 4))]]), (.cells [zz133, (zz2 bz), (zz1 az), (zz1 ez)]), zz164, (zz183 [[(.val (.int .u8 0))], [(.val (.int .u8 4))]])], []⟩
 else (((@Eq (Bool) true true) ∧
 IsB (bz)) ∧
 (∀ z_8 : Int, (∀ bz_9 : Bs, (∀ az_10 : Int, (∀ ez_11 : Int, (((@Eq (Int) (z_8) (nmB (2 : Nat) bz ez)) ∧
 ((@Eq (Bs) (bz_9) (tkR (↑(2 : Nat) : Int) bz ez)) ∧
 (@Eq (Int) (ez_11) (tkE (↑(2 : Nat) : Int) bz ez)))) → (((@Eq (Bool) true true) ∧
 IsB (bz_9)) ∧
 (∀ z_13 : Int, (∀ bz_14 : Bs, (∀ az_15 : Int, (∀ ez_16 : Int, (((@Eq (Int) (z_13) (nmB (2 : Nat) bz_9 ez_11)) ∧
 ((@Eq (Bs) (bz_14) (tkR (↑(2 : Nat) : Int) bz_9 ez_11)) ∧
 (@Eq (Int) (ez_16) (tkE (↑(2 : Nat) : Int) bz_9 ez_11)))) → (((@Eq (Bool) true true) ∧
 IsB (bz_14)) ∧
 (∀ z_18 : Int, (∀ bz_19 : Bs, (∀ az_20 : Int, (∀ ez_21 : Int, (((@Eq (Int) (z_18) (nmB (4 : Nat) bz_14 ez_16)) ∧
 ((@Eq (Bs) (bz_19) (tkR (↑(4 : Nat) : Int) bz_14 ez_16)) ∧
 (@Eq (Int) (ez_21) (tkE (↑(4 : Nat) : Int) bz_14 ez_16)))) → (((@Eq (Bool) true true) ∧
 IsB (bz_19)) ∧
 (∀ z_23 : Int, (∀ bz_24 : Bs, (∀ az_25 : Int, (∀ ez_26 : Int, (((@Eq (Int) (z_23) (nmB (1 : Nat) bz_19 ez_21)) ∧
 ((@Eq (Bs) (bz_24) (tkR (↑(1 : Nat) : Int) bz_19 ez_21)) ∧
 (@Eq (Int) (ez_26) (tkE (↑(1 : Nat) : Int) bz_19 ez_21)))) → (bif eqRes BinOp.eql (k6 z_8 (0 : Int))
 then Q zz182 ⟨[zz164, zz181, (.cells [zz133, (zz2 bz_24), (zz1 az_25), (zz1 ez_26)]), (zz180 z_8 z_13 z_18), zz164, zz181], []⟩
 else (bif decide (pas ≥ (1 : Int))
 then (bif eqRes BinOp.neq (k6 z_8 pas)
 then Q zz182 ⟨[zz164, zz181, (.cells [zz133, (zz2 bz_24), (zz1 az_25), (zz1 ez_26)]), (zz180 z_8 z_13 z_18), zz164, zz181], []⟩
 else (bif eqRes BinOp.eql (k6 z_13 (0 : Int))
 then (bif eqRes BinOp.eql (keyEq (Value.int IntKind.u32 z_18) (Value.int IntKind.u32 (0 : Int)))
 then Q zz179 ⟨[zz164, zz178, (.cells [zz133, (zz2 bz_24), (zz1 az_25), (zz1 ez_26)]), (zz180 z_8 z_13 z_18), zz164, zz178], []⟩
 else (((@Eq (Bool) true true) ∧
 IsB (bz_24)) ∧
 (bif eqRes BinOp.neq (k6 z_23 (leB bz_24 ez_26))
 then Q zz185 ⟨[zz164, zz165, (.cells [zz133, (zz2 bz_24), (zz1 az_25), (zz1 ez_26)]), (zz180 z_8 z_13 z_18), zz164, zz165], []⟩
 else (((@Eq (Bool) true true) ∧
 IsB (bz_24)) ∧
 (∀ bz_28 : Bs, (∀ az_29 : Int, (∀ ez_30 : Int, (bif paO bz_24 ez_26
 then Q (zz177 z_8 z_13 z_18 (paL bz_24 ez_26)) ⟨[(zz28 z_8 z_13 z_18 (paL bz_24 ez_26)), zz62, (.cells [zz133, (zz2 bz_28), (zz1 az_29), (zz1 ez_30)]), (zz28 z_8 z_13 z_18 (paL bz_24 ez_26))], []⟩
 else Q (zz176 (paS bz_24 ez_26)) ⟨[zz164, (zz175 (paS bz_24 ez_26)), (.cells [zz133, (zz2 bz_28), (zz1 az_29), (zz1 ez_30)]), (zz180 z_8 z_13 z_18), zz164, (zz175 (paS bz_24 ez_26))], []⟩))))))))
 else (bif decide (z_13 ≥ (3 : Int))
 then (bif !decide (z_13 ≤ (65535 : Int))
 then Q zz174 ⟨[zz164, zz172, (.cells [zz133, (zz2 bz_24), (zz1 az_25), (zz1 ez_26)]), (zz180 z_8 z_13 z_18), zz164, zz172], []⟩
 else (bif eqRes BinOp.eql (keyEq (Value.int IntKind.u32 z_18) (Value.int IntKind.u32 (0 : Int)))
 then Q zz179 ⟨[zz164, zz178, (.cells [zz133, (zz2 bz_24), (zz1 az_25), (zz1 ez_26)]), (zz180 z_8 z_13 z_18), zz164, zz178], []⟩
 else (((@Eq (Bool) true true) ∧
 IsB (bz_24)) ∧
 (bif eqRes BinOp.neq (k6 z_23 (leB bz_24 ez_26))
 then Q zz185 ⟨[zz164, zz165, (.cells [zz133, (zz2 bz_24), (zz1 az_25), (zz1 ez_26)]), (zz180 z_8 z_13 z_18), zz164, zz165], []⟩
 else (((@Eq (Bool) true true) ∧
 IsB (bz_24)) ∧
 (∀ bz_28 : Bs, (∀ az_29 : Int, (∀ ez_30 : Int, (bif paO bz_24 ez_26
 then Q (zz177 z_8 z_13 z_18 (paL bz_24 ez_26)) ⟨[(zz28 z_8 z_13 z_18 (paL bz_24 ez_26)), zz62, (.cells [zz133, (zz2 bz_28), (zz1 az_29), (zz1 ez_30)]), (zz28 z_8 z_13 z_18 (paL bz_24 ez_26))], []⟩
 else Q (zz176 (paS bz_24 ez_26)) ⟨[zz164, (zz175 (paS bz_24 ez_26)), (.cells [zz133, (zz2 bz_28), (zz1 az_29), (zz1 ez_30)]), (zz180 z_8 z_13 z_18), zz164, (zz175 (paS bz_24 ez_26))], []⟩)))))))))
 else Q zz174 ⟨[zz164, zz172, (.cells [zz133, (zz2 bz_24), (zz1 az_25), (zz1 ez_26)]), (zz180 z_8 z_13 z_18), zz164, zz172], []⟩)))
 else (bif eqRes BinOp.eql (k6 z_13 (0 : Int))
 then (bif eqRes BinOp.eql (keyEq (Value.int IntKind.u32 z_18) (Value.int IntKind.u32 (0 : Int)))
 then Q zz179 ⟨[zz164, zz178, (.cells [zz133, (zz2 bz_24), (zz1 az_25), (zz1 ez_26)]), (zz180 z_8 z_13 z_18), zz164, zz178], []⟩
 else (((@Eq (Bool) true true) ∧
 IsB (bz_24)) ∧
 (bif eqRes BinOp.neq (k6 z_23 (leB bz_24 ez_26))
 then Q zz185 ⟨[zz164, zz165, (.cells [zz133, (zz2 bz_24), (zz1 az_25), (zz1 ez_26)]), (zz180 z_8 z_13 z_18), zz164, zz165], []⟩
 else (((@Eq (Bool) true true) ∧
 IsB (bz_24)) ∧
 (∀ bz_28 : Bs, (∀ az_29 : Int, (∀ ez_30 : Int, (bif paO bz_24 ez_26
 then Q (zz177 z_8 z_13 z_18 (paL bz_24 ez_26)) ⟨[(zz28 z_8 z_13 z_18 (paL bz_24 ez_26)), zz62, (.cells [zz133, (zz2 bz_28), (zz1 az_29), (zz1 ez_30)]), (zz28 z_8 z_13 z_18 (paL bz_24 ez_26))], []⟩
 else Q (zz176 (paS bz_24 ez_26)) ⟨[zz164, (zz175 (paS bz_24 ez_26)), (.cells [zz133, (zz2 bz_28), (zz1 az_29), (zz1 ez_30)]), (zz180 z_8 z_13 z_18), zz164, (zz175 (paS bz_24 ez_26))], []⟩))))))))
 else (bif decide (z_13 ≥ (3 : Int))
 then (bif !decide (z_13 ≤ (65535 : Int))
 then Q zz174 ⟨[zz164, zz172, (.cells [zz133, (zz2 bz_24), (zz1 az_25), (zz1 ez_26)]), (zz180 z_8 z_13 z_18), zz164, zz172], []⟩
 else (bif eqRes BinOp.eql (keyEq (Value.int IntKind.u32 z_18) (Value.int IntKind.u32 (0 : Int)))
 then Q zz179 ⟨[zz164, zz178, (.cells [zz133, (zz2 bz_24), (zz1 az_25), (zz1 ez_26)]), (zz180 z_8 z_13 z_18), zz164, zz178], []⟩
 else (((@Eq (Bool) true true) ∧
 IsB (bz_24)) ∧
 (bif eqRes BinOp.neq (k6 z_23 (leB bz_24 ez_26))
 then Q zz185 ⟨[zz164, zz165, (.cells [zz133, (zz2 bz_24), (zz1 az_25), (zz1 ez_26)]), (zz180 z_8 z_13 z_18), zz164, zz165], []⟩
 else (((@Eq (Bool) true true) ∧
 IsB (bz_24)) ∧
 (∀ bz_28 : Bs, (∀ az_29 : Int, (∀ ez_30 : Int, (bif paO bz_24 ez_26
 then Q (zz177 z_8 z_13 z_18 (paL bz_24 ez_26)) ⟨[(zz28 z_8 z_13 z_18 (paL bz_24 ez_26)), zz62, (.cells [zz133, (zz2 bz_28), (zz1 az_29), (zz1 ez_30)]), (zz28 z_8 z_13 z_18 (paL bz_24 ez_26))], []⟩
 else Q (zz176 (paS bz_24 ez_26)) ⟨[zz164, (zz175 (paS bz_24 ez_26)), (.cells [zz133, (zz2 bz_28), (zz1 az_29), (zz1 ez_30)]), (zz180 z_8 z_13 z_18), zz164, (zz175 (paS bz_24 ez_26))], []⟩)))))))))
 else Q zz174 ⟨[zz164, zz172, (.cells [zz133, (zz2 bz_24), (zz1 az_25), (zz1 ez_26)]), (zz180 z_8 z_13 z_18), zz164, zz172], []⟩))))))))))))))))))))))))))))))))))))) := by kernel_rfl
end Go.Proofs.YtogbdjlelkepcaaGreatDoor
namespace Go.Proofs.YtogbdjlelkepcaaGreatDoor
open Go.RowKit

theorem le_pos {b : Bs} {e : Int} (h : leB b e > 0) : e = 0 ∧ 0 < b.length := by
 unfold leB at h
 by_cases he : e = 0
 ·rw [decide_eq_true he] at h; simp only [cond_true] at h; exact ⟨he, by omega⟩
 ·rw [decide_eq_false he] at h; simp only [cond_false] at h; omega
theorem tk_len (n : Int) (b : Bs) (e : Int) : (tkB n b e).length + (tkR n b e).length ≤ b.length := by
 unfold tkB tkR; cases h : tkOk n b e
 ·simp only [cond_false, List.length_nil]; omega
 ·simp only [cond_true, List.length_take, List.length_drop]; omega
theorem tk1_len {b : Bs} {e : Int} (h : leB b e > 0) : (tkR 1 b e).length < b.length := by
 obtain ⟨rfl, hp⟩ := le_pos h
 have hk : tkOk 1 b 0 = true := by simp only [tkOk, decide_true, decide_eq_true (show (1 : Int) ≤ b.length by omega)]; rfl
 unfold tkR
 rw [hk]
 simp only [cond_true, List.length_drop]
 omega
theorem cv_len {b : Bs} {e : Int} (h : leB b e > 0) : (cvV b e).length + (cvB b e).length < b.length := by
 have h1 := tk1_len h
 have h2 := tkR_le (n := 1) (b := tkR 1 b e) (e := tkE 1 b e)
 have h3 := tk_len (cvN b e) (tkR 1 (tkR 1 b e) (tkE 1 b e)) (tkE 1 (tkR 1 b e) (tkE 1 b e))
 unfold cvV cvB
 omega
theorem cvV_is {b : Bs} {e : Int} (h : IsB b) : IsB (cvV b e) := tkB_is (tkR_is (tkR_is h))
theorem cvB_is {b : Bs} {e : Int} (h : IsB b) : IsB (cvB b e) := tkR_is (tkR_is (tkR_is h))
theorem cpRun_fuel : ∀ (k j : Nat) (b : Bs) (e : Int) (acc : List (Int × Bs)), b.length < k → b.length < j → cpRun k b e acc = cpRun j b e acc
 | 0, _, _, _, _, h, _ => absurd h (Nat.not_lt_zero _)
 | _, 0, _, _, _, _, h => absurd h (Nat.not_lt_zero _)
 | k + 1, j + 1, b, e, acc, h1, h2 => by
  unfold cpRun
  by_cases hl : leB b e > 0
  ·have := cv_len hl
   rw [decide_eq_true hl, cpRun_fuel k j (cvB b e) _ _ (by omega) (by omega)]
  ·rw [decide_eq_false hl]; rfl
theorem cpRun_step {b : Bs} {e : Int} {acc : List (Int × Bs)} (hl : leB b e > 0) : cpRun (b.length + 1) b e acc = cpRun ((cvB b e).length + 1) (cvB b e) (cvZ b e) (acc ++ [(cvC b e, cvV b e)]) := by
 have := cv_len hl
 rw [cpRun_fuel ((cvB b e).length + 1) b.length (cvB b e) _ _ (by omega) (by omega)]
 simp only [cpRun, decide_eq_true hl, cond_true]
theorem cpRun_end {b : Bs} {e : Int} {acc : List (Int × Bs)} (hl : ¬ leB b e > 0) : cpRun (b.length + 1) b e acc = (b, e, acc) := by
 simp only [cpRun, decide_eq_false hl, cond_false]
def AllB (l : List (Int × Bs)) : Prop := ∀ p ∈ l, IsB p.2
theorem AllB.app {l m : List (Int × Bs)} (h : AllB l) (k : AllB m) : AllB (l ++ m) := fun p hp => by
 rcases List.mem_append.1 hp with h1 | h1
 ·exact h p h1
 ·exact k p h1
theorem AllB.one {c : Int} {v : Bs} (h : IsB v) : AllB [(c, v)] := fun p hp => by obtain rfl := List.mem_singleton.1 hp; exact h
theorem AllB.nil : AllB [] := fun p hp => by simp at hp
theorem cpRun_is : ∀ (k : Nat) (b : Bs) (e : Int) (acc : List (Int × Bs)), b.length < k → IsB b → AllB acc → IsB (cpRun k b e acc).1 ∧ AllB (cpRun k b e acc).2.2 ∧ (cpRun k b e acc).2.2.length ≤ acc.length + b.length
 | 0, _, _, _, h, _, _ => absurd h (Nat.not_lt_zero _)
 | k + 1, b, e, acc, h1, hb, ha => by
  unfold cpRun
  by_cases hl : leB b e > 0
  ·have := cv_len hl
   rw [decide_eq_true hl]
   obtain ⟨h2, h3, h4⟩ := cpRun_is k (cvB b e) (cvZ b e) (acc ++ [(cvC b e, cvV b e)]) (by omega) (cvB_is hb) (ha.app (.one (cvV_is hb)))
   refine ⟨h2, h3, ?_⟩
   simp only [List.length_append, List.length_cons, List.length_nil] at h4
   simp only [cond_true]
   omega
  ·rw [decide_eq_false hl]
   exact ⟨hb, ha, Nat.le_add_right _ _⟩
theorem cpF_is {b : Bs} (e : Int) (h : IsB b) : IsB (cpB b e) ∧ AllB (cpS b e) ∧ (cpS b e).length ≤ b.length := by
 obtain ⟨h1, h2, h3⟩ := cpRun_is (b.length + 1) b e [] (Nat.lt_succ_self _) h .nil
 exact ⟨h1, h2, Nat.le_trans h3 (by simp)⟩
theorem renLL_cp (f g : Nat → Option Nat) : ∀ {l : List (Int × Bs)}, AllB l → renLL f g (l.map cpE) = l.map cpE
 | [], _ => rfl
 | a :: l, h => by
  have h1 := renLL_cp f g (l := l) fun p hp => h p (List.mem_cons_of_mem _ hp)
  have h2 := (h a List.mem_cons_self).ren f g
  simp only [List.map_cons, renLL, h1, cpE, renL, TV.ren, h2, Tok.ren]
theorem paGo_fuel : ∀ (k j : Nat) (b : Bs) (e : Int) (acc : List (Int × Bs)), b.length < k → b.length < j → paGo k b e acc = paGo j b e acc
 | 0, _, _, _, _, h, _ => absurd h (Nat.not_lt_zero _)
 | _, 0, _, _, _, _, h => absurd h (Nat.not_lt_zero _)
 | k + 1, j + 1, b, e, acc, h1, h2 => by
  unfold paGo
  by_cases hl : leB b e > 0
  ·have := cv_len hl
   rw [decide_eq_true hl, paGo_fuel k j (cvB b e) _ _ (by omega) (by omega)]
  ·rw [decide_eq_false hl]; rfl
theorem paGo_step {b : Bs} {e : Int} {acc : List (Int × Bs)} (hl : leB b e > 0) : paGo (b.length + 1) b e acc = bif decide (cvZ b e = 0) then (bif decide (cvC b e = 2) then (bif cpO (cvV b e) 0 then paGo ((cvB b e).length + 1) (cvB b e) (cvZ b e) (acc ++ cpS (cvV b e) 0) else .error 0) else .error 4) else .error 0 := by
 have := cv_len hl
 rw [paGo_fuel ((cvB b e).length + 1) b.length (cvB b e) _ _ (by omega) (by omega)]
 simp only [paGo, decide_eq_true hl, cond_true]
theorem paGo_end {b : Bs} {e : Int} {acc : List (Int × Bs)} (hl : ¬ leB b e > 0) : paGo (b.length + 1) b e acc = .ok acc := by
 simp only [paGo, decide_eq_false hl, cond_false]
def ntO (b : Bs) : Bool := decide (2 ≤ b.length) && (decide ((b.drop 2).length ≤ 4075) && !decide (bval (b[0]?.getD []) = 0))
def ntX (b : Bs) : TV := bif ntO b then .tup [.agg [.val (.int .i64 (bval (b[0]?.getD []))), .val (.int .i64 (bval (b[1]?.getD []))), .vec 1 (b.drop 2) .none], .val (.bool true)] else .tup [.agg [.val (.int .i64 0), .val (.int .i64 0), .vec 1 [] .none], .val (.bool false)]
theorem nt_bad : TVle (.tup [.agg [.val (.int .i64 0), .val (.int .i64 0), .val (.slice none 0 0)], .val (.bool false)]) (.tup [.agg [.val (.int .i64 0), .val (.int .i64 0), .vec 1 [] .none], .val (.bool false)]) :=
 .tup ⟨.agg ⟨.refl _, .refl _, .nil 1, trivial⟩, .refl _, trivial⟩
theorem ntO_f {b : Bs} (h : ntO b = false) : TVle (.tup [.agg [.val (.int .i64 0), .val (.int .i64 0), .val (.slice none 0 0)], .val (.bool false)]) (ntX b) := by
 unfold ntX; rw [h]; exact nt_bad
theorem ntO_no {b : Bs} (h : b.length < 2) : ntO b = false := by unfold ntO; rw [decide_eq_false (by omega)]; rfl
theorem nt_two {b : Bs} (hb : IsB b) (h : 2 ≤ b.length) : ∃ z0 z1, (0 ≤ z0 ∧ z0 < 256) ∧ (0 ≤ z1 ∧ z1 < 256) ∧ b[0]? = some (bT z0) ∧ b[1]? = some (bT z1) := by
 obtain ⟨z0, h0, h1⟩ := hb.at (List.getElem?_eq_getElem (show 0 < b.length by omega))
 obtain ⟨z1, h2, h3⟩ := hb.at (List.getElem?_eq_getElem (show 1 < b.length by omega))
 exact ⟨z0, z1, h1, h3, by rw [List.getElem?_eq_getElem (show 0 < b.length by omega), h0], by rw [List.getElem?_eq_getElem (show 1 < b.length by omega), h2]⟩
theorem ntO_z {b : Bs} {z0 : Int} (e0 : b[0]? = some (bT z0)) : ntO b = (decide (2 ≤ b.length) && (decide ((b.drop 2).length ≤ 4075) && !decide (z0 = 0))) := by unfold ntO; rw [e0]; rfl
theorem nt_vcx {b : Bs} (hb : IsB b) : VCx Tryz.prog noGl 0 ntF [.vec 1 b .none] ⟨[], []⟩ fun x T' => x = ntX b ∧ T' = ⟨[], []⟩ := by
  have hS : SpecsOk Tryz.prog noGl (specs [(clF, cloneW)]) := specs_ok fun p hp => by obtain rfl := List.mem_singleton.1 hp; exact cloneW_ok
  by_cases h2 : b.length < 2
  · refine VCx.toLe (Q := fun T' => T' = ⟨[], []⟩) (VCx.keepQ 0 0 (Nat.le_refl _) (Nat.le_refl _) (vcallF_is mixedB_Tryz bodiesB_Tryz hS lsOk_none (ev_nt b 0 0 _) ?_))
    exact condT (decide_eq_true (by omega)) ⟨ntO_f (ntO_no h2), rfl⟩
  · obtain ⟨z0, z1, ⟨a0, a1⟩, ⟨c0, c1⟩, e0, e1⟩ := nt_two hb (by omega)
    refine VCx.toLe (Q := fun T' => T' = ⟨[], []⟩) (VCx.keepQ 0 0 (Nat.le_refl _) (Nat.le_refl _) (vcallF_is mixedB_Tryz bodiesB_Tryz hS lsOk_none (ev_nt b z0 z1 _) ?_))
    refine condF (decide_eq_false (by omega)) ⟨opure_b rfl rfl (by decide) e0, opure_b rfl rfl (by decide) e1, opure_blo rfl rfl (by decide) rfl (by omega), hb.drop 2, ⟨rfl, rfl, trivial⟩, ?_⟩
    rw [wrap_id (z := z0) (by omega) (by omega), wrap_id (z := z1) (by omega) (by omega)]
    by_cases hz : z0 ≥ 1
    · refine condT (decide_eq_true hz) (condT (decide_eq_true (by omega)) (condT (decide_eq_true (by omega)) (condT (decide_eq_true (by omega)) ?_)))
      by_cases hd : (b.drop 2).length ≤ 4075
      · have ho : ntO b = true := by rw [ntO_z e0, decide_eq_true (show 2 ≤ b.length by omega), decide_eq_true hd, decide_eq_false (show ¬ z0 = 0 by omega)]; rfl
        refine condF (by rw [decide_eq_true (show ((b.drop 2).length : Int) ≤ 4075 by omega)]; rfl) ⟨?_, rfl⟩
        unfold ntX; rw [ho, e0, e1]
        refine TVle.of_eq ?_
        simp only [TV.ren, renL, (hb.drop 2).ren, Tok.ren, cond_true, Option.getD_some, bval, bT]
      · have ho : ntO b = false := by unfold ntO; rw [decide_eq_false hd, Bool.false_and, Bool.and_false]
        exact condT (by rw [decide_eq_false (show ¬ ((b.drop 2).length : Int) ≤ 4075 by omega)]; rfl) ⟨ntO_f ho, rfl⟩
    · have ho : ntO b = false := by rw [ntO_z e0, decide_eq_true (show z0 = 0 by omega), Bool.not_true, Bool.and_false, Bool.and_false]
      exact condF (decide_eq_false hz) ⟨ntO_f ho, rfl⟩
theorem r10_vcx {b : Bs} (hb : IsB b) : VCx Tryz.prog noGl 0 r10F [.vec 1 b .none] ⟨[], []⟩ fun x T' => x = ntX b ∧ T' = ⟨[], []⟩ := by
  have hsm := hb.small
  by_cases h2 : b.length < 2
  · refine VCx.toLe (Q := fun T' => T' = ⟨[], []⟩) (VCx.keepQ 0 0 (Nat.le_refl _) (Nat.le_refl _) (vcallF_is mixedB_Tryz bodiesB_Tryz specsOk_none lsOk_none (ev_r10 b 0 0 _) ?_))
    exact condT (decide_eq_true (by omega)) ⟨ntO_f (ntO_no h2), rfl⟩
  · obtain ⟨z0, z1, ⟨a0, a1⟩, ⟨c0, c1⟩, e0, e1⟩ := nt_two hb (by omega)
    refine VCx.toLe (Q := fun T' => T' = ⟨[], []⟩) (VCx.keepQ 0 0 (Nat.le_refl _) (Nat.le_refl _) (vcallF_is mixedB_Tryz bodiesB_Tryz specsOk_none lsOk_none (ev_r10 b z0 z1 _) ?_))
    refine condF (decide_eq_false (by omega)) ?_
    have hdl : (b.drop 2).length = b.length - 2 := List.length_drop
    rw [wrap_id (z := (b.length : Int) - 2) (by omega) (by omega), wrap_id (z := z0) (by omega) (by omega), wrap_id (z := z1) (by omega) (by omega)]
    by_cases hd : (b.drop 2).length ≤ 4075
    · refine condF (decide_eq_false (by omega)) ⟨opure_b rfl rfl (by decide) e0, ?_⟩
      by_cases hz : z0 = 0
      · have ho : ntO b = false := by rw [ntO_z e0, decide_eq_true (show z0 = 0 by omega), Bool.not_true, Bool.and_false, Bool.and_false]
        exact condT (by rw [eqI]; exact decide_eq_true hz) ⟨ntO_f ho, rfl⟩
      · have ho : ntO b = true := by rw [ntO_z e0, decide_eq_true (show 2 ≤ b.length by omega), decide_eq_true hd, decide_eq_false hz]; rfl
        refine condF (by rw [eqI]; exact decide_eq_false hz) ⟨opure_b rfl rfl (by decide) e0, opure_b rfl rfl (by decide) e1, opure_blo rfl rfl (by decide) rfl (by omega), ocl_turn _ _ (by omega) 28 30 rfl, ?_, rfl⟩
        unfold ntX; rw [ho, e0, e1]
        refine TVle.of_eq ?_
        simp only [TV.ren, renL, (hb.drop 2).ren, Tok.ren, cond_true, Option.getD_some, bval, bT]
        rfl
    · have ho : ntO b = false := by unfold ntO; rw [decide_eq_false hd, Bool.false_and, Bool.and_false]
      exact condT (decide_eq_true (by omega)) ⟨ntO_f ho, rfl⟩
theorem cpInf_ex : ∃ inf : TypeInfo, Tryz.prog.info? 101 = some inf ∧ inf.size = 2 ∧ inf.bytes + 1 ≤ 1000 ∧ inf.zero = some (.agg #[.int .i64 0, .slice none 0 0]) :=
 ⟨(Tryz.prog.info? 101).getD default, by kernel_rfl, by kernel_rfl, Nat.le_of_ble_eq_true (by kernel_rfl), by kernel_rfl⟩
theorem oturn_cp {ro : Nat} {T T1 : VT} {s x : Operand} {l : List (Nat × TV)} {es es2 : List (List TV)} {k n : Nat} {bn : Bool} (hs : vadopt T 2 (evOf noGl l s) = some (es, k, n, bn, T1)) (hx : srcOf 2 (evOf noGl l x) = some es2) (hb : es.length + es2.length ≤ 2000001) :
    OTurn Tryz.prog noGl ro T (.call ⟨.builtin .append, #[s, x], #[55, 55]⟩) l (.vec 2 (es ++ es2) (.tail k (n + es2.length))) { T1 with tails := T1.tails.set k (n + es2.length, 2, bn) } := by
  obtain ⟨inf, i1, i2, i3, i4⟩ := cpInf_ex
  have h := oturn_app (inf := inf) (P := Tryz.prog) (G := noGl) (ro := ro) (T := T) (T1 := T1) (t := 55) (tx := 55) (s := s) (x := x) (l := l) (es := es) (es2 := es2) (k := k) (n := n) (bn := bn) Tryz.underlying55 i1 i4 (by rw [i2]; rfl) (by rw [i2]; decide) (by kernel_rfl) (by rw [i2]; exact hs) (by rw [i2]; exact hx)
    (by have h1 := i3
        have h2 := Nat.mul_le_mul hb h1
        omega)
  rw [i2] at h
  exact h
structure CSt where
 b : Bs
 a : Int
 e : Int
 acc : List (Int × Bs)
theorem cap_round {b0 : Bs} (h0 : IsB b0) (a0 e0 : Int) (K : KX) (hK : ∀ az : Int, K .normal (slotsN 25 capK (capV (cpL b0 e0))) ⟨[srcO (cpB b0 e0) az (cpZ b0 e0)], [((cpL b0 e0).length, 2, true)]⟩ []) : VWx Tryz.prog noGl none 0 (codeAt Tryz.prog capF 0) (slotsN 25 capK (capV [])) ⟨[srcO b0 a0 e0], [(0, 2, true)]⟩ [] K := by
  let sl : CSt → List TV := fun s => capV (s.acc.map cpE)
  let TT : CSt → VT := fun s => ⟨[srcO s.b s.a s.e], [(s.acc.length, 2, true)]⟩
  let Post : Exit → List TV → VT → Prop := fun e vs T => e = .normal ∧ ∃ az : Int, vs = capV (cpL b0 e0) ∧ T = ⟨[srcO (cpB b0 e0) az (cpZ b0 e0)], [((cpL b0 e0).length, 2, true)]⟩
  refine loopK (f := capF) (id := 0) (by kernel_rfl) 25 capK (fun s : CSt => s.b.length) sl TT (fun s => IsB s.b ∧ AllB s.acc ∧ s.acc.length + s.b.length ≤ b0.length ∧ cpRun (s.b.length + 1) s.b s.e s.acc = cpF b0 e0) 1 1 (fun _ _ => ⟨Nat.le_refl _, Nat.le_refl _⟩)
    Post (fun s hs => ?_) ⟨b0, a0, e0, []⟩ ⟨h0, .nil, by simp, rfl⟩ K (fun e vs T ⟨h1, az, h2, h3⟩ => by subst h1 h2 h3; exact hK az)
  obtain ⟨b, a, e, acc⟩ := s
  obtain ⟨hb, ha, hlen, hgo⟩ := hs
  have hsm := h0.small
  simp only at hb ha hlen hgo
  have hS : SpecsOk Tryz.prog noGl (specs [(wLeF, slW), (wU8F, snU .i64 1), (wByF, sbU)]) := specs_ok fun p hp => by
    rcases List.mem_cons.1 hp with rfl | hp; exact wLe_ok
    rcases List.mem_cons.1 hp with rfl | hp; exact fun ro ys T K h => wU8_ok _ _ _ _ (snU_le h)
    obtain rfl := List.mem_singleton.1 hp; exact fun ro ys T K h => wBy_ok _ _ _ _ (sbU_le h)
  have hv := ev_capA b (acc.map cpE) (cpE (cvC b e, cvV b e)) a e
  rw [List.length_map] at hv
  refine vx_is mixedB_Tryz bodiesB_Tryz hS lsOk_none (hv _) ?_
  refine ⟨⟨rfl, hb⟩, ?_⟩
  by_cases hl : leB b e > 0
  · refine condT (decide_eq_true hl) ⟨⟨rfl, hb⟩, ?_⟩
    rintro z bz az ez ⟨rfl, rfl, rfl⟩
    refine ⟨⟨rfl, tkR_is hb⟩, ?_⟩
    rintro z bz az ez ⟨rfl, rfl, rfl⟩
    refine ⟨⟨rfl, tkR_is (tkR_is hb)⟩, ?_⟩
    rintro v bz az ez ⟨rfl, rfl, rfl⟩
    have hlt := cv_len hl
    have hb2 := cvB_is (e := e) hb
    have ha2 := ha.app (.one (c := cvC b e) (cvV_is (e := e) hb))
    have e1 : (acc ++ [(cvC b e, cvV b e)]).map cpE = acc.map cpE ++ [cpE (cvC b e, cvV b e)] := by rw [List.map_append]; rfl
    refine ⟨?_, rfl, rfl, ⟨cvB b e, az, cvZ b e, acc ++ [(cvC b e, cvV b e)]⟩, ⟨hb2, ha2, by simp only [List.length_append, List.length_cons, List.length_nil]; omega, by rw [← hgo]; exact (cpRun_step hl).symm⟩, by simp only; omega, .inr ⟨?_, ?_⟩⟩
    · have h := oturn_cp (ro := 0) (T := ⟨[srcO (cvB b e) az (cvZ b e), .cells (cpE (cvC b e, cvV b e))], [(acc.length, 2, true)]⟩) (T1 := ⟨[srcO (cvB b e) az (cvZ b e), .cells (cpE (cvC b e, cvV b e))], [(acc.length, 2, true)]⟩) (s := .tmp 17) (x := .tmp 19) (l := [(17, .vec 2 (acc.map cpE) (.tail 0 acc.length)), (19, .vec 2 [cpE (cvC b e, cvV b e)] .full)]) (es := acc.map cpE) (es2 := [cpE (cvC b e, cvV b e)]) (k := 0) (n := acc.length) (bn := true)
        (by simp [evOf, evFind, vadopt]) rfl (by simp only [List.length_map, List.length_cons, List.length_nil]; omega)
      exact h
    · refine (show VT.keep ⟨srcO (cvB b e) az (cvZ b e) :: _, _⟩ 1 1 = _ from ?_)
      simp only [VT.keep, List.take_succ_cons, List.take_zero, List.map_cons, List.map_nil, srcO_ren hb2]
      simp only [TT, List.length_append, List.length_cons, List.length_nil]
    · have e2 := renLL_cp (Go.Proofs.YtogbdjlelkepcaaGreatDoor.keep 1) (Go.Proofs.YtogbdjlelkepcaaGreatDoor.keep 1) ha2
      rw [e1] at e2
      simp only [renL, TV.ren, e2, Tok.ren]
      simp only [sl, capV, e1, List.length_append, List.length_map, List.length_cons, List.length_nil]
      rfl
  · have hE := (cpRun_end (acc := acc) hl).symm.trans hgo
    refine condF (decide_eq_false hl) ⟨rfl, rfl, rfl, a, ?_, ?_⟩
    · simp only [capV, cpL, cpS, ← hE, List.length_map]
    · simp only [cpB, cpZ, cpL, cpS, ← hE, List.length_map]; rfl
theorem cap_loop {b : Bs} (h : IsB b) (a e : Int) : LsOk Tryz.prog noGl (capL b (cpB b e) (cpL b e) a e (cpZ b e) (codeAt Tryz.prog capF 0)) := specsL_ok fun p hp => by
 obtain rfl := List.mem_singleton.1 hp
 exact loopL_ok fun K hK => cap_round h a e K hK
theorem cap_vcx {b : Bs} (hb : IsB b) (a e : Int) : VCx Tryz.prog noGl 0 capF [.ptr 0 0] ⟨[srcO b a e], []⟩ fun x T' => x = .tup [.vec 2 (cpL b e) .none, .val (.bool (cpO b e))] ∧ ∃ az, T' = ⟨[srcO (cpB b e) az (cpZ b e)], []⟩ := by
 obtain ⟨h1, h2, h3⟩ := cpF_is e hb
 refine VCx.keepQ 1 0 (Nat.le_refl _) (Nat.le_refl _) (vcallF_is mixedB_Tryz bodiesB_Tryz (specs_ok fun p hp => by obtain rfl := List.mem_singleton.1 hp; exact wEr_ok) (cap_loop hb a e) (ev_cap b (cpB b e) (cpL b e) a e (cpZ b e) _) ?_)
 refine ⟨rfl, ⟨rfl, rfl, rfl, ⟨rfl, trivial⟩, rfl, rfl, rfl⟩, fun az => ⟨⟨rfl, h1⟩, ?_, az, keepS h1 _ _ _ _⟩⟩
 have e2 : renLL (Go.Proofs.YtogbdjlelkepcaaGreatDoor.keep 1) (Go.Proofs.YtogbdjlelkepcaaGreatDoor.keep 0) (cpL b e) = cpL b e := renLL_cp _ _ h2
 simp only [TV.ren, renL, e2, Tok.ren, eqI]
 rfl
theorem cpsW_ok : ∀ ro ys T K, cpsW ro ys T K → VCx Tryz.prog noGl ro capF ys T K := by
 intro ro ys T K hw
 unfold cpsW at hw
 split at hw
 ·rename_i k
  split at hw
  ·rename_i b a e ho
   obtain ⟨⟨hro, hb⟩, hk⟩ := hw
   obtain ⟨h1, h2, h3⟩ := cpF_is e hb
   refine VCx.at1 (Q := fun x o' l' => x = .tup [.vec 2 (cpL b e) .none, .val (.bool (cpO b e))] ∧ (∃ az, o' = srcO (cpB b e) az (cpZ b e)) ∧ l' = []) gvals_noGl (Nat.le_of_ble_eq_true hro) ho rfl (srcO_ren hb a e _ _) (ys1 := [.ptr 0 0]) (by simp [renL, TV.ren, nameIn]) ((cap_vcx hb a e).mono fun x T' ⟨h1, az, h2⟩ => ⟨_, _, h2, h1, ⟨az, rfl⟩, rfl⟩) ?_
   rintro x o' l' ⟨rfl, ⟨az, rfl⟩, rfl⟩
   rw [srcO_ren h1]
   have e2 := renLL_cp (nameOut T.objs.length [k]) (nameOut T.tails.length []) h2
   simpa [TV.ren, renL, Tok.ren, cpL, e2] using hk az
  ·exact hw.elim
 ·exact hw.elim
end Go.Proofs.YtogbdjlelkepcaaGreatDoor
namespace Go.Proofs.YtogbdjlelkepcaaGreatDoor
open Go.RowKit

structure PaSt where
 b : Bs
 a : Int
 e : Int
 acc : List (Int × Bs)
def parPost (b0 : Bs) (e0 : Int) (e : Exit) (vs : List TV) (T : VT) : Prop :=
 (∃ (l : List (Int × Bs)) (bz : Bs) (az ez : Int), paF b0 e0 = .ok l ∧ e = .normal ∧ vs = parV (l.map cpE) 0 ∧ T = ⟨[srcO bz az ez], [(l.length, 2, true)]⟩) ∨
 (∃ (s : Int) (Lz bz bY : Bs) (az ez ay ey : Int), paF b0 e0 = .error s ∧ e = .ret ∧ vs = parV Lz s ∧ T = ⟨[srcO bz az ez, srcO bY ay ey], [(Lz.length, 2, true)]⟩)
theorem paO_ok {b : Bs} {e : Int} {l : List (Int × Bs)} (h : paF b e = .ok l) : paO b e = true ∧ paL b e = l.map cpE := by
 unfold paO paL; rw [h]; exact ⟨rfl, rfl⟩
theorem paO_err {b : Bs} {e s : Int} (h : paF b e = .error s) : paO b e = false ∧ paL b e = [] ∧ paS b e = s := by
 unfold paO paL paS; rw [h]; exact ⟨rfl, rfl, rfl⟩
theorem parPost_ok {b0 : Bs} {e0 : Int} {K : KX} (hK : parR (paL b0 e0) (paS b0 e0) (paO b0 e0) K) {e : Exit} {vs : List TV} {T : VT} (h : parPost b0 e0 e vs T) : K e (slotsN 37 parK vs) T [] := by
 rcases h with ⟨l, bz, az, ez, h1, rfl, rfl, rfl⟩ | ⟨s, Lz, bz, bY, az, ez, ay, ey, h1, rfl, rfl, rfl⟩
 ·obtain ⟨h2, h3⟩ := paO_ok h1
  have := hK bz [] [] az ez 0 0
  simp only [h2, cond_true, h3, List.length_map] at this
  exact this
 ·obtain ⟨h2, _, h3⟩ := paO_err h1
  have := hK bz Lz bY az ez ay ey
  simp only [h2, cond_false, h3] at this
  exact this
theorem par_round {b0 : Bs} (h0 : IsB b0) (a0 e0 : Int) (K : KX) (hK : parR (paL b0 e0) (paS b0 e0) (paO b0 e0) K) : VWx Tryz.prog noGl none 0 (codeAt Tryz.prog parF 0) (slotsN 37 parK (parV [] 0)) ⟨[srcO b0 a0 e0], [(0, 2, true)]⟩ [] K := by
  let sl : PaSt → List TV := fun s => parV (s.acc.map cpE) 0
  let TT : PaSt → VT := fun s => ⟨[srcO s.b s.a s.e], [(s.acc.length, 2, true)]⟩
  refine loopK (f := parF) (id := 0) (by kernel_rfl) 37 parK (fun s : PaSt => s.b.length) sl TT (fun s => IsB s.b ∧ AllB s.acc ∧ s.acc.length + s.b.length ≤ b0.length ∧ paGo (s.b.length + 1) s.b s.e s.acc = paF b0 e0) 1 1 (fun _ _ => ⟨Nat.le_refl _, Nat.le_refl _⟩)
    (parPost b0 e0) (fun s hs => ?_) ⟨b0, a0, e0, []⟩ ⟨h0, .nil, by simp, rfl⟩ K (fun e vs T h => parPost_ok hK h)
  obtain ⟨b, a, e, acc⟩ := s
  obtain ⟨hb, ha, hlen, hgo⟩ := hs
  have hsm := h0.small
  simp only at hb ha hlen hgo
  have hS : SpecsOk Tryz.prog noGl (specs [(wLeF, slW), (wU8F, snU .i64 1), (wSuF, ssubU), (wErF, seW), (capF, cpsW)]) := specs_ok fun p hp => by
    rcases List.mem_cons.1 hp with rfl | hp; exact wLe_ok
    rcases List.mem_cons.1 hp with rfl | hp; exact fun ro ys T K h => wU8_ok _ _ _ _ (snU_le h)
    rcases List.mem_cons.1 hp with rfl | hp; exact fun ro ys T K h => wSu_ok _ _ _ _ (ssubU_le h)
    rcases List.mem_cons.1 hp with rfl | hp; exact wEr_ok
    obtain rfl := List.mem_singleton.1 hp; exact cpsW_ok
  have hv := ev_parA b (acc.map cpE) (cpL (cvV b e) 0) a e
  rw [List.length_map] at hv
  refine vx_is mixedB_Tryz bodiesB_Tryz hS lsOk_none (hv _) ?_
  refine ⟨⟨rfl, hb⟩, ?_⟩
  by_cases hl : leB b e > 0
  · refine condT (decide_eq_true hl) ⟨⟨rfl, hb⟩, ?_⟩
    rintro z bz az ez ⟨rfl, rfl, rfl⟩
    refine ⟨⟨rfl, tkR_is hb⟩, ?_⟩
    rintro z bz az ez ⟨rfl, rfl, rfl⟩
    refine ⟨⟨rfl, tkR_is (tkR_is hb)⟩, ?_⟩
    rintro v bz az ez ⟨rfl, rfl, rfl⟩
    have hlt := cv_len hl
    have hb2 := cvB_is (e := e) hb
    have hv2 := cvV_is (e := e) hb
    have hst := paGo_step (acc := acc) hl
    rw [hgo] at hst
    refine ⟨⟨rfl, hb2⟩, ?_⟩
    by_cases hz : cvZ b e = 0
    · rw [decide_eq_true hz, cond_true] at hst
      refine condF (by rw [neI]; exact congrArg Bool.not (decide_eq_true hz)) ?_
      by_cases hc : cvC b e = 2
      · rw [decide_eq_true hc, cond_true] at hst
        refine condF (by rw [neI]; exact congrArg Bool.not (decide_eq_true hc)) ⟨⟨rfl, hv2⟩, fun ay => ?_⟩
        obtain ⟨i1, i2, i3⟩ := cpF_is 0 hv2
        cases ho : cpO (cvV b e) 0
        · rw [ho, cond_false] at hst
          exact condT (congrArg Bool.not ho) ⟨rfl, rfl, .inr ⟨0, acc.map cpE, _, _, _, _, _, _, hst, rfl, by simp only [parV, List.length_map], by rw [List.length_map]; rfl⟩⟩
        · rw [ho, cond_true] at hst
          have ha2 := ha.app i2
          have e1 : (acc ++ cpS (cvV b e) 0).map cpE = acc.map cpE ++ cpL (cvV b e) 0 := by rw [List.map_append]; rfl
          have hcl : (cpL (cvV b e) 0).length = (cpS (cvV b e) 0).length := List.length_map _
          refine condF (congrArg Bool.not ho) ⟨?_, rfl, rfl, ⟨cvB b e, az, cvZ b e, acc ++ cpS (cvV b e) 0⟩, ⟨hb2, ha2, by simp only [List.length_append]; omega, by rw [hst]⟩, by simp only; omega, .inr ⟨?_, ?_⟩⟩
          · have h := oturn_cp (ro := 0) (T := ⟨[srcO (cvB b e) az (cvZ b e), srcO (cpB (cvV b e) 0) ay (cpZ (cvV b e) 0)], [(acc.length, 2, true)]⟩) (T1 := ⟨[srcO (cvB b e) az (cvZ b e), srcO (cpB (cvV b e) 0) ay (cpZ (cvV b e) 0)], [(acc.length, 2, true)]⟩) (s := .tmp 33) (x := .tmp 34) (l := [(33, .vec 2 (acc.map cpE) (.tail 0 acc.length)), (34, .vec 2 (cpL (cvV b e) 0) .none)]) (es := acc.map cpE) (es2 := cpL (cvV b e) 0) (k := 0) (n := acc.length) (bn := true)
              (by simp [evOf, evFind, vadopt]) rfl (by rw [hcl, List.length_map]; omega)
            exact h
          · refine (show VT.keep ⟨srcO (cvB b e) az (cvZ b e) :: _, _⟩ 1 1 = _ from ?_)
            simp only [VT.keep, List.take_succ_cons, List.take_zero, List.map_cons, List.map_nil, srcO_ren hb2]
            simp only [TT, List.length_append, hcl]
          · have e2 := renLL_cp (Go.Proofs.YtogbdjlelkepcaaGreatDoor.keep 1) (Go.Proofs.YtogbdjlelkepcaaGreatDoor.keep 1) ha2
            rw [e1] at e2
            simp only [renL, TV.ren, e2, Tok.ren]
            simp only [sl, parV, e1, List.length_append, List.length_map, hcl]
            rfl
      · rw [decide_eq_false hc, cond_false] at hst
        exact condT (by rw [neI]; exact congrArg Bool.not (decide_eq_false hc)) ⟨rfl, rfl, .inr ⟨4, acc.map cpE, _, _, _, _, _, _, hst, rfl, by simp only [parV, List.length_map], by rw [List.length_map]; rfl⟩⟩
    · rw [decide_eq_false hz, cond_false] at hst
      exact condT (by rw [neI]; exact congrArg Bool.not (decide_eq_false hz)) ⟨rfl, rfl, .inr ⟨0, acc.map cpE, _, _, _, _, _, _, hst, rfl, by simp only [parV, List.length_map], by rw [List.length_map]; rfl⟩⟩
  · have hE := (paGo_end (acc := acc) hl).symm.trans hgo
    exact condF (decide_eq_false hl) ⟨rfl, rfl, .inl ⟨acc, b, a, e, hE.symm, rfl, by simp only [parV, List.length_map], rfl⟩⟩
theorem par_loop {b : Bs} (h : IsB b) (a e : Int) : LsOk Tryz.prog noGl (parL b (paL b e) a e (paS b e) (paO b e) (codeAt Tryz.prog parF 0)) := specsL_ok fun p hp => by
 obtain rfl := List.mem_singleton.1 hp
 exact loopL_ok fun K hK => par_round h a e K hK
theorem paGo_is : ∀ (k : Nat) (b : Bs) (e : Int) (acc : List (Int × Bs)), IsB b → AllB acc → ∀ l, paGo k b e acc = .ok l → AllB l
 | 0, _, _, _, _, _, l, h => by cases h
 | k + 1, b, e, acc, hb, ha, l, h => by
  unfold paGo at h
  cases h1 : decide (leB b e > 0) <;> rw [h1] at h
  ·injection h with h; subst h; exact ha
  ·cases h2 : decide (cvZ b e = 0) <;> rw [h2] at h
   ·cases h
   ·cases h3 : decide (cvC b e = 2) <;> rw [h3] at h
    ·cases h
    ·cases h4 : cpO (cvV b e) 0 <;> rw [h4] at h
     ·cases h
     ·exact paGo_is k _ _ _ (cvB_is hb) (ha.app (cpF_is 0 (cvV_is hb)).2.1) l h
theorem paL_ren {b : Bs} (hb : IsB b) (e : Int) (f g : Nat → Option Nat) : renLL f g (paL b e) = paL b e := by
 cases h : paF b e with
 | ok l => rw [(paO_ok h).2]; exact renLL_cp f g (paGo_is _ _ _ _ hb .nil l h)
 | error s => rw [(paO_err h).2.1]; rfl
theorem paL_nil {b : Bs} {e : Int} (h : paO b e = false) : paL b e = [] := by
 cases hc : paF b e with
 | ok l => rw [(paO_ok hc).1] at h; cases h
 | error s => exact (paO_err hc).2.1
def paX (b : Bs) (e : Int) : TV := .tup [.vec 2 (paL b e) .none, .val (.int .i64 (bif paO b e then 0 else paS b e)), .val (.bool (paO b e))]
theorem par_vcx {b : Bs} (hb : IsB b) (a e : Int) : VCx Tryz.prog noGl 0 parF [.ptr 0 0] ⟨[srcO b a e], []⟩ fun x T' => x = paX b e ∧ ∃ bz az ez, T' = ⟨[srcO bz az ez], []⟩ := by
 refine VCx.toLe (Q := fun T' => ∃ bz az ez, T' = ⟨[srcO bz az ez], []⟩) (VCx.keepQ 1 0 (Nat.le_refl _) (Nat.le_refl _) (vcallF_is mixedB_Tryz bodiesB_Tryz specsOk_none (par_loop hb a e) (ev_par b (paL b e) a e (paS b e) (paO b e) _) ?_))
 refine ⟨rfl, ⟨rfl, rfl, rfl, ⟨rfl, trivial⟩, rfl, rfl, rfl⟩, fun bz Lz bY az ez ay ey => ?_⟩
 cases h : paO b e
 ·refine ⟨?_, _, az, ez, rfl⟩
  unfold paX
  rw [paL_nil h, h]
  exact TVle.tup ⟨TVle.nil 2, TVle.refl _, TVle.refl _, trivial⟩
 ·refine ⟨TVle.of_eq ?_, _, az, ez, rfl⟩
  unfold paX
  rw [h]
  simp only [TV.ren, renL, paL_ren hb e, Tok.ren, cond_true]
  rfl
theorem paW_ok : ∀ ro ys T K, paW ro ys T K → VCx Tryz.prog noGl ro parF ys T K := by
 intro ro ys T K hw
 unfold paW at hw
 split at hw
 ·rename_i k
  split at hw
  ·rename_i b a e ho
   obtain ⟨⟨hro, hb⟩, hk⟩ := hw
   refine VCx.at1 (Q := fun x o' l' => x = paX b e ∧ (∃ bz az ez, o' = srcO bz az ez) ∧ l' = []) gvals_noGl (Nat.le_of_ble_eq_true hro) ho rfl (srcO_ren hb a e _ _) (ys1 := [.ptr 0 0]) (by simp [renL, TV.ren, nameIn]) ((par_vcx hb a e).mono fun x T' ⟨h1, bz, az, ez, h2⟩ => ⟨_, _, h2, h1, ⟨bz, az, ez, rfl⟩, rfl⟩) ?_
   rintro x o' l' ⟨rfl, ⟨bz, az, ez, rfl⟩, rfl⟩
   have hk2 := hk (renLL (nameOut T.objs.length [k]) (nameOut T.tails.length []) bz) az ez
   have e2 := paL_ren hb e (nameOut T.objs.length [k]) (nameOut T.tails.length [])
   unfold paX
   cases h : paO b e <;> rw [h] at hk2
   ·rw [paL_nil h]
    simp only [List.map_nil, List.append_nil, TV.ren, renL, cond_false]
    exact hk2
   ·simp only [List.map_nil, List.append_nil, TV.ren, renL, cond_true, e2, Tok.ren]
    exact hk2
  ·exact hw.elim
 ·exact hw.elim
def opFail (s : Int) (d : Bs) : TV := .tup [.agg [.val (.int .i64 0), .val (.int .i64 0), .val (.int .u32 0), .vec 2 [] .none], .agg [.val (.int .i64 2), .val (.int .i64 s), .vec 1 d .none]]
def opGood (n h i : Int) (l : Bs) : TV := .tup [.agg [.val (.int .i64 n), .val (.int .i64 h), .val (.int .u32 i), .vec 2 l .none], .agg [.val (.int .i64 0), .val (.int .i64 0), .vec 1 [] .none]]
def opEnd (n h i k : Int) (b : Bs) (e pas : Int) : TV :=
 if n = 0 then opFail 2 [] else if pas ≥ 1 ∧ ¬ n = pas then opFail 2 [] else if ¬ (h = 0 ∨ (h ≥ 3 ∧ h ≤ 65535)) then opFail 6 [] else if i = 0 then opFail 3 []
 else if ¬ k = leB b e then opFail 0 [] else bif paO b e then opGood n h i (paL b e) else opFail (paS b e) []
def opMid (b : Bs) (e pas : Int) : TV :=
 opEnd (nmB 2 b e) (nmB 2 (tkR 2 b e) (tkE 2 b e)) (nmB 4 (tkR 2 (tkR 2 b e) (tkE 2 b e)) (tkE 2 (tkR 2 b e) (tkE 2 b e)))
  (nmB 1 (tkR 4 (tkR 2 (tkR 2 b e) (tkE 2 b e)) (tkE 2 (tkR 2 b e) (tkE 2 b e))) (tkE 4 (tkR 2 (tkR 2 b e) (tkE 2 b e)) (tkE 2 (tkR 2 b e) (tkE 2 b e))))
  (tkR 1 (tkR 4 (tkR 2 (tkR 2 b e) (tkE 2 b e)) (tkE 2 (tkR 2 b e) (tkE 2 b e))) (tkE 4 (tkR 2 (tkR 2 b e) (tkE 2 b e)) (tkE 2 (tkR 2 b e) (tkE 2 b e))))
  (tkE 1 (tkR 4 (tkR 2 (tkR 2 b e) (tkE 2 b e)) (tkE 2 (tkR 2 b e) (tkE 2 b e))) (tkE 4 (tkR 2 (tkR 2 b e) (tkE 2 b e)) (tkE 2 (tkR 2 b e) (tkE 2 b e)))) pas
def opX (b : Bs) (pas : Int) : TV := if b.length < 10 then opFail 0 [] else if ¬ nmB 1 b 0 = 4 then opFail 1 [bT 0, bT 4] else opMid (tkR 1 b 0) (tkE 1 b 0) pas
theorem op_fail (s : Int) : TVle (.tup [.agg [.val (.int .i64 0), .val (.int .i64 0), .val (.int .u32 0), .val (.slice none 0 0)], .agg [.val (.int .i64 2), .val (.int .i64 s), .val (.slice none 0 0)]]) (opFail s []) :=
 .tup ⟨.agg ⟨.refl _, .refl _, .refl _, .nil 2, trivial⟩, .agg ⟨.refl _, .refl _, .nil 1, trivial⟩, trivial⟩
theorem op_fail1 (tok : Tok) : TVle (.tup [.agg [.val (.int .i64 0), .val (.int .i64 0), .val (.int .u32 0), .val (.slice none 0 0)], .agg [.val (.int .i64 2), .val (.int .i64 1), .vec 1 [bT 0, bT 4] tok]]) (opFail 1 [bT 0, bT 4]) :=
 .tup ⟨.agg ⟨.refl _, .refl _, .refl _, .nil 2, trivial⟩, .agg ⟨.refl _, .refl _, .vec 1 _ _, trivial⟩, trivial⟩
theorem op_good (n h i : Int) (l : Bs) (tok : Tok) : TVle (.tup [.agg [.val (.int .i64 n), .val (.int .i64 h), .val (.int .u32 i), .vec 2 l tok], .agg [.val (.int .i64 0), .val (.int .i64 0), .val (.slice none 0 0)]]) (opGood n h i l) :=
 .tup ⟨.agg ⟨.refl _, .refl _, .refl _, .vec 2 _ _, trivial⟩, .agg ⟨.refl _, .refl _, .nil 1, trivial⟩, trivial⟩
theorem eqIt {q : IntKind} {x y : Int} (h : eqRes BinOp.eql (keyEq (.int q x) (.int q y)) = true) : x = y := by rw [eqI] at h; exact of_decide_eq_true h
theorem eqIf {q : IntKind} {x y : Int} (h : eqRes BinOp.eql (keyEq (.int q x) (.int q y)) = false) : ¬ x = y := by rw [eqI] at h; exact of_decide_eq_false h
theorem neIt {q : IntKind} {x y : Int} (h : eqRes BinOp.neq (keyEq (.int q x) (.int q y)) = true) : ¬ x = y := by rw [neI] at h; exact of_decide_eq_false (by simpa using h)
theorem neIf {q : IntKind} {x y : Int} (h : eqRes BinOp.neq (keyEq (.int q x) (.int q y)) = false) : x = y := by rw [neI] at h; exact of_decide_eq_true (by simpa using h)
section
variable {n h i k : Int} {b : Bs} {e pas : Int}
theorem opE_n (h1 : n = 0) : opEnd n h i k b e pas = opFail 2 [] := by unfold opEnd; rw [if_pos h1]
theorem opE_p (h1 : ¬ n = 0) (h2 : pas ≥ 1) (h3 : ¬ n = pas) : opEnd n h i k b e pas = opFail 2 [] := by unfold opEnd; rw [if_neg h1, if_pos ⟨h2, h3⟩]
theorem opE_h (h1 : ¬ n = 0) (h2 : ¬ (pas ≥ 1 ∧ ¬ n = pas)) (h3 : ¬ (h = 0 ∨ (h ≥ 3 ∧ h ≤ 65535))) : opEnd n h i k b e pas = opFail 6 [] := by unfold opEnd; rw [if_neg h1, if_neg h2, if_pos h3]
theorem opE_i (h1 : ¬ n = 0) (h2 : ¬ (pas ≥ 1 ∧ ¬ n = pas)) (h3 : h = 0 ∨ (h ≥ 3 ∧ h ≤ 65535)) (h4 : i = 0) : opEnd n h i k b e pas = opFail 3 [] := by unfold opEnd; rw [if_neg h1, if_neg h2, if_neg (fun c => c h3), if_pos h4]
theorem opE_k (h1 : ¬ n = 0) (h2 : ¬ (pas ≥ 1 ∧ ¬ n = pas)) (h3 : h = 0 ∨ (h ≥ 3 ∧ h ≤ 65535)) (h4 : ¬ i = 0) (h5 : ¬ k = leB b e) : opEnd n h i k b e pas = opFail 0 [] := by unfold opEnd; rw [if_neg h1, if_neg h2, if_neg (fun c => c h3), if_neg h4, if_pos h5]
theorem opE_e (h1 : ¬ n = 0) (h2 : ¬ (pas ≥ 1 ∧ ¬ n = pas)) (h3 : h = 0 ∨ (h ≥ 3 ∧ h ≤ 65535)) (h4 : ¬ i = 0) (h5 : k = leB b e) : opEnd n h i k b e pas = bif paO b e then opGood n h i (paL b e) else opFail (paS b e) [] := by unfold opEnd; rw [if_neg h1, if_neg h2, if_neg (fun c => c h3), if_neg h4, if_neg (fun c => c h5)]
end
theorem opSp : SpecsOk Tryz.prog noGl (specs [(wRdF, sreadW), (wU8F, snU .i64 1), (wU16F, snU .i64 2), (wU32F, snU .u32 4), (wLeF, slW), (parF, paW)]) := specs_ok fun p hp => by
 rcases List.mem_cons.1 hp with rfl | hp; exact wRdW_ok
 rcases List.mem_cons.1 hp with rfl | hp; exact fun ro ys T K h => wU8_ok _ _ _ _ (snU_le h)
 rcases List.mem_cons.1 hp with rfl | hp; exact fun ro ys T K h => wU16_ok _ _ _ _ (snU_le h)
 rcases List.mem_cons.1 hp with rfl | hp; exact fun ro ys T K h => wU32_ok _ _ _ _ (snU_le h)
 rcases List.mem_cons.1 hp with rfl | hp; exact wLe_ok
 obtain rfl := List.mem_singleton.1 hp; exact paW_ok
set_option maxHeartbeats 1000000 in
theorem op_vcx {b : Bs} (hb : IsB b) (pas : Int) : VCx Tryz.prog noGl 0 opF [.vec 1 b .none, .val (.int .i64 pas)] ⟨[], []⟩ fun x T' => x = opX b pas ∧ T' = ⟨[], []⟩ := by
  refine VCx.toLe (Q := fun T' => T' = ⟨[], []⟩) (VCx.keepQ 0 0 (Nat.le_refl _) (Nat.le_refl _) (vcallF_is mixedB_Tryz bodiesB_Tryz opSp lsOk_none (ev_op b pas _) ?_))
  by_cases h10 : b.length < 10
  · refine condT (decide_eq_true (by omega)) ⟨?_, rfl⟩
    unfold opX; rw [if_pos h10]; exact op_fail 0
  refine condF (decide_eq_false (by omega)) ⟨hb, ⟨rfl, hb⟩, ?_⟩
  intro z bz az ez hq
  have hbz : IsB bz := by rw [hq.2.1]; exact tkR_is hb
  refine cond_of (fun h => ?_) (fun h => ?_)
  · refine ⟨?_, rfl⟩
    have h4 := neIt h; rw [hq.1] at h4
    unfold opX; rw [if_neg h10, if_pos h4]; exact op_fail1 _
  have h4 := neIf h; rw [hq.1] at h4
  have hX : opX b pas = opMid bz ez pas := by unfold opX; rw [if_neg h10, if_neg (fun c => c h4), hq.2.1, hq.2.2]; rfl
  refine ⟨⟨rfl, hbz⟩, ?_⟩
  intro n b2 a2 e2 hq2
  have hb2 : IsB b2 := by rw [hq2.2.1]; exact tkR_is hbz
  refine ⟨⟨rfl, hb2⟩, ?_⟩
  intro hh b3 a3 e3 hq3
  have hb3 : IsB b3 := by rw [hq3.2.1]; exact tkR_is hb2
  refine ⟨⟨rfl, hb3⟩, ?_⟩
  intro i b4 a4 e4 hq4
  have hb4 : IsB b4 := by rw [hq4.2.1]; exact tkR_is hb3
  refine ⟨⟨rfl, hb4⟩, ?_⟩
  intro k b5 a5 e5 hq5
  have hb5 : IsB b5 := by rw [hq5.2.1]; exact tkR_is hb4
  have hM : opX b pas = opEnd n hh i k b5 e5 pas := by
    rw [hX]
    obtain ⟨rfl, rfl, rfl⟩ := hq2
    obtain ⟨rfl, rfl, rfl⟩ := hq3
    obtain ⟨rfl, rfl, rfl⟩ := hq4
    obtain ⟨rfl, rfl, rfl⟩ := hq5
    rfl
  clear hX hq hq2 hq3 hq4 hq5
  rw [hM]
  refine cond_of (fun c1 => ?_) (fun c1 => ?_)
  · rw [opE_n (eqIt c1)]; exact ⟨op_fail 2, rfl⟩
  have d1 := eqIf c1
  refine cond_of (fun c2 => ?_) (fun c2 => ?_)
  · have d2 := of_decide_eq_true c2
    refine cond_of (fun c3 => ?_) (fun c3 => ?_)
    · rw [opE_p d1 d2 (neIt c3)]; exact ⟨op_fail 2, rfl⟩
    · have d3 : ¬ (pas ≥ 1 ∧ ¬ n = pas) := fun c => c.2 (neIf c3)
      refine cond_of (fun c4 => ?_) (fun c4 => ?_)
      · have d4 : hh = 0 ∨ (hh ≥ 3 ∧ hh ≤ 65535) := .inl (eqIt c4)
        refine cond_of (fun c5 => ?_) (fun c5 => ?_)
        · rw [opE_i d1 d3 d4 (eqIt c5)]; exact ⟨op_fail 3, rfl⟩
        refine ⟨⟨rfl, hb5⟩, ?_⟩
        refine cond_of (fun c6 => ?_) (fun c6 => ?_)
        · rw [opE_k d1 d3 d4 (eqIf c5) (neIt c6)]; exact ⟨op_fail 0, rfl⟩
        refine ⟨⟨rfl, hb5⟩, fun by6 ay6 ey6 => ?_⟩
        rw [opE_e d1 d3 d4 (eqIf c5) (neIf c6)]
        cases paO b5 e5
        · exact ⟨op_fail _, rfl⟩
        · refine ⟨?_, rfl⟩
          simp only [TV.ren, renL, paL_ren hb5 e5, cond_true]
          exact op_good _ _ _ _ _
      · have d0 := eqIf c4
        refine cond_of (fun c4a => ?_) (fun c4a => ?_)
        · have d4a := of_decide_eq_true c4a
          refine cond_of (fun c4b => ?_) (fun c4b => ?_)
          · have d4 : ¬ (hh = 0 ∨ (hh ≥ 3 ∧ hh ≤ 65535)) := by
              have := of_decide_eq_false (show decide (hh ≤ 65535) = false by cases h : decide (hh ≤ 65535) <;> simp_all)
              omega
            rw [opE_h d1 d3 d4]; exact ⟨op_fail 6, rfl⟩
          · have d4 : hh = 0 ∨ (hh ≥ 3 ∧ hh ≤ 65535) := .inr ⟨d4a, of_decide_eq_true (by simpa using c4b)⟩
            refine cond_of (fun c5 => ?_) (fun c5 => ?_)
            · rw [opE_i d1 d3 d4 (eqIt c5)]; exact ⟨op_fail 3, rfl⟩
            refine ⟨⟨rfl, hb5⟩, ?_⟩
            refine cond_of (fun c6 => ?_) (fun c6 => ?_)
            · rw [opE_k d1 d3 d4 (eqIf c5) (neIt c6)]; exact ⟨op_fail 0, rfl⟩
            refine ⟨⟨rfl, hb5⟩, fun by6 ay6 ey6 => ?_⟩
            rw [opE_e d1 d3 d4 (eqIf c5) (neIf c6)]
            cases paO b5 e5
            · exact ⟨op_fail _, rfl⟩
            · refine ⟨?_, rfl⟩
              simp only [TV.ren, renL, paL_ren hb5 e5, cond_true]
              exact op_good _ _ _ _ _
        · have d4a := of_decide_eq_false c4a
          have d4 : ¬ (hh = 0 ∨ (hh ≥ 3 ∧ hh ≤ 65535)) := by omega
          rw [opE_h d1 d3 d4]; exact ⟨op_fail 6, rfl⟩
  · have d3 : ¬ (pas ≥ 1 ∧ ¬ n = pas) := fun c => of_decide_eq_false c2 c.1
    refine cond_of (fun c4 => ?_) (fun c4 => ?_)
    · have d4 : hh = 0 ∨ (hh ≥ 3 ∧ hh ≤ 65535) := .inl (eqIt c4)
      refine cond_of (fun c5 => ?_) (fun c5 => ?_)
      · rw [opE_i d1 d3 d4 (eqIt c5)]; exact ⟨op_fail 3, rfl⟩
      refine ⟨⟨rfl, hb5⟩, ?_⟩
      refine cond_of (fun c6 => ?_) (fun c6 => ?_)
      · rw [opE_k d1 d3 d4 (eqIf c5) (neIt c6)]; exact ⟨op_fail 0, rfl⟩
      refine ⟨⟨rfl, hb5⟩, fun by6 ay6 ey6 => ?_⟩
      rw [opE_e d1 d3 d4 (eqIf c5) (neIf c6)]
      cases paO b5 e5
      · exact ⟨op_fail _, rfl⟩
      · refine ⟨?_, rfl⟩
        simp only [TV.ren, renL, paL_ren hb5 e5, cond_true]
        exact op_good _ _ _ _ _
    · have d0 := eqIf c4
      refine cond_of (fun c4a => ?_) (fun c4a => ?_)
      · have d4a := of_decide_eq_true c4a
        refine cond_of (fun c4b => ?_) (fun c4b => ?_)
        · have d4 : ¬ (hh = 0 ∨ (hh ≥ 3 ∧ hh ≤ 65535)) := by
            have := of_decide_eq_false (show decide (hh ≤ 65535) = false by cases h : decide (hh ≤ 65535) <;> simp_all)
            omega
          rw [opE_h d1 d3 d4]; exact ⟨op_fail 6, rfl⟩
        · have d4 : hh = 0 ∨ (hh ≥ 3 ∧ hh ≤ 65535) := .inr ⟨d4a, of_decide_eq_true (by simpa using c4b)⟩
          refine cond_of (fun c5 => ?_) (fun c5 => ?_)
          · rw [opE_i d1 d3 d4 (eqIt c5)]; exact ⟨op_fail 3, rfl⟩
          refine ⟨⟨rfl, hb5⟩, ?_⟩
          refine cond_of (fun c6 => ?_) (fun c6 => ?_)
          · rw [opE_k d1 d3 d4 (eqIf c5) (neIt c6)]; exact ⟨op_fail 0, rfl⟩
          refine ⟨⟨rfl, hb5⟩, fun by6 ay6 ey6 => ?_⟩
          rw [opE_e d1 d3 d4 (eqIf c5) (neIf c6)]
          cases paO b5 e5
          · exact ⟨op_fail _, rfl⟩
          · refine ⟨?_, rfl⟩
            simp only [TV.ren, renL, paL_ren hb5 e5, cond_true]
            exact op_good _ _ _ _ _
      · have d4a := of_decide_eq_false c4a
        have d4 : ¬ (hh = 0 ∨ (hh ≥ 3 ∧ hh ≤ 65535)) := by omega
        rw [opE_h d1 d3 d4]; exact ⟨op_fail 6, rfl⟩
end Go.Proofs.YtogbdjlelkepcaaGreatDoor
namespace Go.Proofs.YtogbdjlelkepcaaGreatDoor
open Go.RowKit

abbrev q8F := 50
abbrev Tls := List (Nat × Nat × Bool)
def zO : VO := .cells [.val (.int .i64 0), .val (.int .i64 0), .val (.int .u32 0), .val (.slice none 0 0)]
def zF : VO := .cells [.val (.int .i64 0), .val (.int .i64 0), .val (.slice none 0 0)]
def fF (s : Int) : VO := .cells [.val (.int .i64 2), .val (.int .i64 s), .val (.slice none 0 0)]
def oC (a h i : Int) (x : TV) : VO := .cells [.val (.int .i64 a), .val (.int .i64 h), .val (.int .u32 i), x]
def ouK : List Nat := [4, 5, 6, 7]
def ouV : List TV := [.ptr 0 0, .ptr 1 0, .ptr 2 0, .ptr 3 0]
def inK : List Nat := [4, 5, 6, 7, 10]
def inV : List TV := [.ptr 0 0, .ptr 1 0, .ptr 2 0, .ptr 3 0, .ptr 4 0]
def inR (B C : Bs) (n e a h i : Int) (x1 : TV) (tl1 : Tls) (ok : Bool) (K : KX) : Prop := bif ok then (∀ mz ez : Int, K .normal (slotsN 122 inK inV) ⟨[zO, zF, rsO B n e, oC a h i x1, rsO C mz ez], tl1⟩ []) else ∀ (rest : List VO) (tlz : Tls), K .ret (slotsN 122 inK inV) ⟨zO :: fF 0 :: rest, tlz⟩ []
def inL (B C : Bs) (n e a h i : Int) (x x1 : TV) (tl tl1 : Tls) (ok : Bool) (c0 : Code) : Nat → Option (LSpec × Code) := specsL [(3, loopL 122 inK [] inV ⟨[zO, zF, rsO B n e, oC a h i x, rsO C 0 0], tl⟩ (inR B C n e a h i x1 tl1 ok), c0)]
def ouR (B : Bs) (s a h i : Int) (x1 : TV) (tl1 : Tls) (ok : Bool) (K : KX) : Prop := bif ok then (∀ nz ez : Int, K .normal (slotsN 122 ouK ouV) ⟨[zO, zF, rsO B nz ez, oC a h i x1], tl1⟩ []) else ∀ (rest : List VO) (tlz : Tls), K .ret (slotsN 122 ouK ouV) ⟨zO :: fF s :: rest, tlz⟩ []
def ouL (B : Bs) (n e s a h i : Int) (x1 : TV) (tl1 : Tls) (ok : Bool) (c0 : Code) : Nat → Option (LSpec × Code) := specsL [(1, loopL 122 ouK [] ouV ⟨[zO, zF, rsO B n e, oC a h i (.val (.slice none 0 0))], []⟩ (ouR B s a h i x1 tl1 ok), c0)]
theorem ev_8i (B C : Bs) (n e m a h i : Int) (x : TV) (Y : Bs) (ky : Nat) (tl tl2 : Tls) (Q : Exit → List TV → VT → List Nat → Nat → Prop) : vx Tryz.prog noGl (specs [(rLeF, rlW), (rU8F, rnU .i64 1), (rByF, rbU)]) (tellS [(999999, .dead, none), (118, .vec 2 Y (.tail 0 ky), some fun T => { T with tails := tl2 })]) 300 noLp none 0 (loopAt Tryz.prog q8F 3) (slotsN 122 inK inV) ⟨[zO, zF, rsO B n e, oC a h i x, rsO C m 0], tl⟩ [] (pickS inK Q) =
 (((@Eq (Bool) true true) ∧
 (IsB (C) ∧
 InB (C) (m))) ∧
 (bif decide (leB (remB C m) (0 : Int) > (0 : Int))
 then (((@Eq (Bool) true true) ∧
 (IsB (C) ∧
 InB (C) (m))) ∧
 (∀ z : Int, (∀ nz : Int, (∀ ez : Int, (((@Eq (Int) (z) (nmB (1 : Nat) (remB C m) (0 : Int))) ∧
 ((@Eq (Int) (nz) (tkN (↑(1 : Nat) : Int) C m (0 : Int))) ∧
 (@Eq (Int) (ez) (tkE (↑(1 : Nat) : Int) (remB C m) (0 : Int))))) → (((@Eq (Bool) true true) ∧
 (IsB (C) ∧
 InB (C) (nz))) ∧
 (∀ z_18 : Int, (∀ nz_19 : Int, (∀ ez_20 : Int, (((@Eq (Int) (z_18) (nmB (1 : Nat) (remB C nz) ez)) ∧
 ((@Eq (Int) (nz_19) (tkN (↑(1 : Nat) : Int) C nz ez)) ∧
 (@Eq (Int) (ez_20) (tkE (↑(1 : Nat) : Int) (remB C nz) ez)))) → (((@Eq (Bool) true true) ∧
 (IsB (C) ∧
 InB (C) (nz_19))) ∧
 (∀ v : Bs, (∀ nz_23 : Int, (∀ ez_24 : Int, (((@Eq (Bs) (v) (tkB z_18 (remB C nz_19) ez_20)) ∧
 ((@Eq (Int) (nz_23) (tkN z_18 C nz_19 ez_20)) ∧
 (@Eq (Int) (ez_24) (tkE z_18 (remB C nz_19) ez_20)))) → (bif eqRes BinOp.neq (k6 ez_24 (0 : Int))
 then Q .ret zz171 ⟨[zz164, zz165, (.cells [(zz2 B), (zz1 n), (zz1 e)]), (zz170 a h i x), (.cells [(zz2 C), (zz1 nz_23), (zz1 ez_24)]), (zz23 z v)], tl⟩ [] 122
 else (OTurn Tryz.prog (fun _ => .none) 0 ⟨[zz164, zz62, (.cells [(zz2 B), (zz1 n), (zz1 e)]), (zz170 a h i x), (.cells [(zz2 C), (zz1 nz_23), (zz1 ez_24)]), (zz23 z v)], tl⟩ (.call ⟨(.builtin .append), #[(.tmp 115), (.tmp 117)], #[68, 68]⟩) [(115, (x)), (117, (.vec 2 [[(.val (.int .i64 (z))), (.vec 1 (v) .none)]] .full))] (zz168 Y ky) ⟨[zz164, zz62, (.cells [(zz2 B), (zz1 n), (zz1 e)]), (zz170 a h i x), (.cells [(zz2 C), (zz1 nz_23), (zz1 ez_24)]), (zz23 z v)], tl2⟩ ∧
 Q .normal zz171 ⟨[zz164, zz62, (.cells [(zz2 B), (zz1 n), (zz1 e)]), (zz169 a h i Y ky), (.cells [(zz2 C), (zz1 nz_23), (zz1 ez_24)]), (zz23 z v)], tl2⟩ [] 122)))))))))))))))))
 else Q (.exit 3) zz171 ⟨[zz164, zz62, (.cells [(zz2 B), (zz1 n), (zz1 e)]), (zz170 a h i x), (.cells [(zz2 C), (zz1 m), zz4])], tl⟩ [] 122)) := by kernel_rfl
theorem ev_8o (B C : Bs) (n e n3 e3 a h i : Int) (x x1 : TV) (tl tl1 : Tls) (ok : Bool) (Q : Exit → List TV → VT → List Nat → Nat → Prop) : vx Tryz.prog noGl (specs [(rLeF, rlW), (rU8F, rnU .i64 1), (rSuF, rsubU)]) (tellS [(999999, .dead, none)]) 300 (inL B C n3 e3 a h i x x1 tl tl1 ok (codeAt Tryz.prog q8F 3)) none 0 (loopAt Tryz.prog q8F 1) (slotsN 122 ouK ouV) ⟨[zO, zF, rsO B n e, oC a h i x], tl⟩ [] (pickS ouK Q) =
 (((@Eq (Bool) true true) ∧
 (IsB (B) ∧
 InB (B) (n))) ∧
 (bif decide (leB (remB B n) e > (0 : Int))
 then (((@Eq (Bool) true true) ∧
 (IsB (B) ∧
 InB (B) (n))) ∧
 (∀ z : Int, (∀ nz : Int, (∀ ez : Int, (((@Eq (Int) (z) (nmB (1 : Nat) (remB B n) e)) ∧
 ((@Eq (Int) (nz) (tkN (↑(1 : Nat) : Int) B n e)) ∧
 (@Eq (Int) (ez) (tkE (↑(1 : Nat) : Int) (remB B n) e)))) → (((@Eq (Bool) true true) ∧
 (IsB (B) ∧
 InB (B) (nz))) ∧
 (∀ z_19 : Int, (∀ nz_20 : Int, (∀ ez_21 : Int, (((@Eq (Int) (z_19) (nmB (1 : Nat) (remB B nz) ez)) ∧
 ((@Eq (Int) (nz_20) (tkN (↑(1 : Nat) : Int) B nz ez)) ∧
 (@Eq (Int) (ez_21) (tkE (↑(1 : Nat) : Int) (remB B nz) ez)))) → (((@Eq (Bool) true true) ∧
 (IsB (B) ∧
 InB (B) (nz_20))) ∧
 (∀ v : Bs, (∀ nz_24 : Int, (∀ ez_25 : Int, (((@Eq (Bs) (v) (tkB z_19 (remB B nz_20) ez_21)) ∧
 ((@Eq (Int) (nz_24) (tkN z_19 B nz_20 ez_21)) ∧
 (@Eq (Int) (ez_25) (tkE z_19 (remB B nz_20) ez_21)))) → (bif eqRes BinOp.neq (k6 ez_25 (0 : Int))
 then Q .ret zz167 ⟨[zz164, zz165, (.cells [(zz2 B), (zz1 nz_24), (zz1 ez_25)]), (zz170 a h i x), (.cells [(zz2 v), zz4, zz4])], tl⟩ [] 122
 else (bif eqRes BinOp.neq (k6 z (2 : Int))
 then Q .ret zz167 ⟨[zz164, (.cells [zz39, zz140, zz18]), (.cells [(zz2 B), (zz1 nz_24), (zz1 ez_25)]), (zz170 a h i x), (.cells [(zz2 v), zz4, zz4])], tl⟩ [] 122
 else ((codeAt Tryz.prog q8F (3 : Nat) = codeAt Tryz.prog q8F (3 : Nat)) ∧
 (((@Eq (Option Nat) .none .none) ∧
 ((@Eq (Nat) 0 0) ∧
 ((@Eq (List Nat) [] []) ∧
 (True  ∧
 ((@Eq (VT) ⟨[zz164, zz62, (.cells [(zz2 B), (zz1 nz_24), (zz1 ez_25)]), (zz170 a h i x), (.cells [(zz2 v), zz4, zz4])], tl⟩ ⟨[zz164, zz62, (.cells [(zz2 B), (zz1 n3), (zz1 e3)]), (zz170 a h i x), (.cells [(zz2 C), zz4, zz4])], tl⟩) ∧
 ((@Eq (Bool) true true) ∧
 (@Eq (List TV) zz171 zz171))))))) ∧
 (bif ok
 then (∀ mz : Int, (∀ ez_28 : Int, Q .normal zz167 ⟨[zz164, zz62, (.cells [(zz2 B), (zz1 n3), (zz1 e3)]), (zz170 a h i x1), (.cells [(zz2 C), (zz1 mz), (zz1 ez_28)])], tl1⟩ [] 122))
 else (∀ rest : List VO, (∀ tlz : Tls, Q .ret zz167 ⟨[(.cells [(.val (.int .i64 0)), (.val (.int .i64 0)), (.val (.int .u32 0)), (.val (.slice .none 0 0))]), (.cells [(.val (.int .i64 2)), (.val (.int .i64 0)), (.val (.slice .none 0 0))])] ++ rest, tlz⟩ [] 122))))))))))))))))))))))
 else Q (.exit 1) zz167 ⟨[zz164, zz62, (.cells [(zz2 B), (zz1 n), (zz1 e)]), (zz170 a h i x)], tl⟩ [] 122)) := by kernel_rfl
theorem ev_8a (B : Bs) (n e s a h i pas : Int) (tl1 : Tls) (ok : Bool) (Q : TV → VT → Prop) : vcallF Tryz.prog noGl (specs [(rRdF, rreadW), (rU8F, rnU .i64 1), (rU16F, rnU .i64 2), (rU32F, rnU .u32 4), (rLeF, rlW)]) (tellS [(999999, .dead, none)]) 300 (ouL B n e s a h i (.val (.slice none 0 0)) tl1 ok (codeAt Tryz.prog q8F 1)) 0 q8F [.vec 1 B .none, .val (.int .i64 pas)] zz211 Q =
 (bif decide ((↑(List.length B) : Int) < (10 : Int))
 then Q zz185 zz166
 else ((IsB (B) ∧
 SmB (B)) ∧
 (((@Eq (Bool) true true) ∧
 (IsB (B) ∧
 InB (B) 0)) ∧
 (∀ z : Int, (∀ nz : Int, (∀ ez : Int, (((@Eq (Int) (z) (nmB (1 : Nat) (remB B (0 : Int)) (0 : Int))) ∧
 ((@Eq (Int) (nz) (tkN (↑(1 : Nat) : Int) B (0 : Int) (0 : Int))) ∧
 (@Eq (Int) (ez) (tkE (↑(1 : Nat) : Int) (remB B (0 : Int)) (0 : Int))))) → (bif eqRes BinOp.neq (k6 z (4 : Int))
 then Q (zz184 [[(.val (.int .u8 0))], [(.val (.int .u8 4))]]) ⟨[zz164, (zz183 [[(.val (.int .u8 0))], [(.val (.int .u8 4))]]), (.cells [(zz2 B), (zz1 nz), (zz1 ez)])], []⟩
 else (((@Eq (Bool) true true) ∧
 (IsB (B) ∧
 InB (B) (nz))) ∧
 (∀ z_15 : Int, (∀ nz_16 : Int, (∀ ez_17 : Int, (((@Eq (Int) (z_15) (nmB (2 : Nat) (remB B nz) ez)) ∧
 ((@Eq (Int) (nz_16) (tkN (↑(2 : Nat) : Int) B nz ez)) ∧
 (@Eq (Int) (ez_17) (tkE (↑(2 : Nat) : Int) (remB B nz) ez)))) → (((@Eq (Bool) true true) ∧
 (IsB (B) ∧
 InB (B) (nz_16))) ∧
 (∀ z_19 : Int, (∀ nz_20 : Int, (∀ ez_21 : Int, (((@Eq (Int) (z_19) (nmB (2 : Nat) (remB B nz_16) ez_17)) ∧
 ((@Eq (Int) (nz_20) (tkN (↑(2 : Nat) : Int) B nz_16 ez_17)) ∧
 (@Eq (Int) (ez_21) (tkE (↑(2 : Nat) : Int) (remB B nz_16) ez_17)))) → (((@Eq (Bool) true true) ∧
 (IsB (B) ∧
 InB (B) (nz_20))) ∧
 (∀ z_23 : Int, (∀ nz_24 : Int, (∀ ez_25 : Int, (((@Eq (Int) (z_23) (nmB (4 : Nat) (remB B nz_20) ez_21)) ∧
 ((@Eq (Int) (nz_24) (tkN (↑(4 : Nat) : Int) B nz_20 ez_21)) ∧
 (@Eq (Int) (ez_25) (tkE (↑(4 : Nat) : Int) (remB B nz_20) ez_21)))) → (((@Eq (Bool) true true) ∧
 (IsB (B) ∧
 InB (B) (nz_24))) ∧
 (∀ z_27 : Int, (∀ nz_28 : Int, (∀ ez_29 : Int, (((@Eq (Int) (z_27) (nmB (1 : Nat) (remB B nz_24) ez_25)) ∧
 ((@Eq (Int) (nz_28) (tkN (↑(1 : Nat) : Int) B nz_24 ez_25)) ∧
 (@Eq (Int) (ez_29) (tkE (↑(1 : Nat) : Int) (remB B nz_24) ez_25)))) → (bif eqRes BinOp.eql (k6 z_15 (0 : Int))
 then Q zz182 ⟨[zz164, zz181, (.cells [(zz2 B), (zz1 nz_28), (zz1 ez_29)]), (zz180 z_15 z_19 z_23)], []⟩
 else (bif decide (pas ≥ (1 : Int))
 then (bif eqRes BinOp.neq (k6 z_15 pas)
 then Q zz182 ⟨[zz164, zz181, (.cells [(zz2 B), (zz1 nz_28), (zz1 ez_29)]), (zz180 z_15 z_19 z_23)], []⟩
 else (bif eqRes BinOp.eql (k6 z_19 (1 : Int))
 then Q zz174 ⟨[zz164, zz172, (.cells [(zz2 B), (zz1 nz_28), (zz1 ez_29)]), (zz180 z_15 z_19 z_23)], []⟩
 else (bif eqRes BinOp.eql (k6 z_19 (2 : Int))
 then Q zz174 ⟨[zz164, zz172, (.cells [(zz2 B), (zz1 nz_28), (zz1 ez_29)]), (zz180 z_15 z_19 z_23)], []⟩
 else (bif eqRes BinOp.eql (keyEq (Value.int IntKind.u32 z_23) (Value.int IntKind.u32 (0 : Int)))
 then Q zz179 ⟨[zz164, zz178, (.cells [(zz2 B), (zz1 nz_28), (zz1 ez_29)]), (zz180 z_15 z_19 z_23)], []⟩
 else (((@Eq (Bool) true true) ∧
 (IsB (B) ∧
 InB (B) (nz_28))) ∧
 (bif eqRes BinOp.neq (k6 z_27 (leB (remB B nz_28) ez_29))
 then Q zz185 ⟨[zz164, zz165, (.cells [(zz2 B), (zz1 nz_28), (zz1 ez_29)]), (zz180 z_15 z_19 z_23)], []⟩
 else ((codeAt Tryz.prog q8F (1 : Nat) = codeAt Tryz.prog q8F (1 : Nat)) ∧
 (((@Eq (Option Nat) .none .none) ∧
 ((@Eq (Nat) 0 0) ∧
 ((@Eq (List Nat) [] []) ∧
 (True  ∧
 ((@Eq (VT) ⟨[zz164, zz62, (.cells [(zz2 B), (zz1 nz_28), (zz1 ez_29)]), (zz180 z_15 z_19 z_23)], []⟩ ⟨[zz164, zz62, (.cells [(zz2 B), (zz1 n), (zz1 e)]), (zz180 a h i)], []⟩) ∧
 ((@Eq (Bool) true true) ∧
 (@Eq (List TV) zz167 zz167))))))) ∧
 (bif ok
 then (∀ nz_31 : Int, (∀ ez_32 : Int, Q (zz163 a h i) ⟨[(zz180 a h i), zz62, (.cells [(zz2 B), (zz1 nz_31), (zz1 ez_32)]), (zz180 a h i)], tl1⟩))
 else (∀ rest : List VO, (∀ tlz : Tls, Q (zz176 s) ⟨[(.cells [(.val (.int .i64 0)), (.val (.int .i64 0)), (.val (.int .u32 0)), (.val (.slice .none 0 0))]), (.cells [(.val (.int .i64 2)), (.val (.int .i64 (s))), (.val (.slice .none 0 0))])] ++ rest, tlz⟩)))))))))))
 else (bif eqRes BinOp.eql (k6 z_19 (1 : Int))
 then Q zz174 ⟨[zz164, zz172, (.cells [(zz2 B), (zz1 nz_28), (zz1 ez_29)]), (zz180 z_15 z_19 z_23)], []⟩
 else (bif eqRes BinOp.eql (k6 z_19 (2 : Int))
 then Q zz174 ⟨[zz164, zz172, (.cells [(zz2 B), (zz1 nz_28), (zz1 ez_29)]), (zz180 z_15 z_19 z_23)], []⟩
 else (bif eqRes BinOp.eql (keyEq (Value.int IntKind.u32 z_23) (Value.int IntKind.u32 (0 : Int)))
 then Q zz179 ⟨[zz164, zz178, (.cells [(zz2 B), (zz1 nz_28), (zz1 ez_29)]), (zz180 z_15 z_19 z_23)], []⟩
 else (((@Eq (Bool) true true) ∧
 (IsB (B) ∧
 InB (B) (nz_28))) ∧
 (bif eqRes BinOp.neq (k6 z_27 (leB (remB B nz_28) ez_29))
 then Q zz185 ⟨[zz164, zz165, (.cells [(zz2 B), (zz1 nz_28), (zz1 ez_29)]), (zz180 z_15 z_19 z_23)], []⟩
 else ((codeAt Tryz.prog q8F (1 : Nat) = codeAt Tryz.prog q8F (1 : Nat)) ∧
 (((@Eq (Option Nat) .none .none) ∧
 ((@Eq (Nat) 0 0) ∧
 ((@Eq (List Nat) [] []) ∧
 (True  ∧
 ((@Eq (VT) ⟨[zz164, zz62, (.cells [(zz2 B), (zz1 nz_28), (zz1 ez_29)]), (zz180 z_15 z_19 z_23)], []⟩ ⟨[zz164, zz62, (.cells [(zz2 B), (zz1 n), (zz1 e)]), (zz180 a h i)], []⟩) ∧
 ((@Eq (Bool) true true) ∧
 (@Eq (List TV) zz167 zz167))))))) ∧
 (bif ok
 then (∀ nz_31 : Int, (∀ ez_32 : Int, Q (zz163 a h i) ⟨[(zz180 a h i), zz62, (.cells [(zz2 B), (zz1 nz_31), (zz1 ez_32)]), (zz180 a h i)], tl1⟩))
 else (∀ rest : List VO, (∀ tlz : Tls, Q (zz176 s) ⟨[(.cells [(.val (.int .i64 0)), (.val (.int .i64 0)), (.val (.int .u32 0)), (.val (.slice .none 0 0))]), (.cells [(.val (.int .i64 2)), (.val (.int .i64 (s))), (.val (.slice .none 0 0))])] ++ rest, tlz⟩)))))))))))))))))))))))))))))))))))))))) := by kernel_rfl
theorem ev_8b (B : Bs) (n e s a h i pas : Int) (X : Bs) (kx : Nat) (tl1 : Tls) (ok : Bool) (Q : TV → VT → Prop) : vcallF Tryz.prog noGl (specs [(rRdF, rreadW), (rU8F, rnU .i64 1), (rU16F, rnU .i64 2), (rU32F, rnU .u32 4), (rLeF, rlW)]) (tellS [(999999, .dead, none)]) 300 (ouL B n e s a h i (zz168 X kx) tl1 ok (codeAt Tryz.prog q8F 1)) 0 q8F [.vec 1 B .none, .val (.int .i64 pas)] zz211 Q =
 (bif decide ((↑(List.length B) : Int) < (10 : Int))
 then Q zz185 zz166
 else ((IsB (B) ∧
 SmB (B)) ∧
 (((@Eq (Bool) true true) ∧
 (IsB (B) ∧
 InB (B) 0)) ∧
 (∀ z : Int, (∀ nz : Int, (∀ ez : Int, (((@Eq (Int) (z) (nmB (1 : Nat) (remB B (0 : Int)) (0 : Int))) ∧
 ((@Eq (Int) (nz) (tkN (↑(1 : Nat) : Int) B (0 : Int) (0 : Int))) ∧
 (@Eq (Int) (ez) (tkE (↑(1 : Nat) : Int) (remB B (0 : Int)) (0 : Int))))) → (bif eqRes BinOp.neq (k6 z (4 : Int))
 then Q (zz184 [[(.val (.int .u8 0))], [(.val (.int .u8 4))]]) ⟨[zz164, (zz183 [[(.val (.int .u8 0))], [(.val (.int .u8 4))]]), (.cells [(zz2 B), (zz1 nz), (zz1 ez)])], []⟩
 else (((@Eq (Bool) true true) ∧
 (IsB (B) ∧
 InB (B) (nz))) ∧
 (∀ z_17 : Int, (∀ nz_18 : Int, (∀ ez_19 : Int, (((@Eq (Int) (z_17) (nmB (2 : Nat) (remB B nz) ez)) ∧
 ((@Eq (Int) (nz_18) (tkN (↑(2 : Nat) : Int) B nz ez)) ∧
 (@Eq (Int) (ez_19) (tkE (↑(2 : Nat) : Int) (remB B nz) ez)))) → (((@Eq (Bool) true true) ∧
 (IsB (B) ∧
 InB (B) (nz_18))) ∧
 (∀ z_21 : Int, (∀ nz_22 : Int, (∀ ez_23 : Int, (((@Eq (Int) (z_21) (nmB (2 : Nat) (remB B nz_18) ez_19)) ∧
 ((@Eq (Int) (nz_22) (tkN (↑(2 : Nat) : Int) B nz_18 ez_19)) ∧
 (@Eq (Int) (ez_23) (tkE (↑(2 : Nat) : Int) (remB B nz_18) ez_19)))) → (((@Eq (Bool) true true) ∧
 (IsB (B) ∧
 InB (B) (nz_22))) ∧
 (∀ z_25 : Int, (∀ nz_26 : Int, (∀ ez_27 : Int, (((@Eq (Int) (z_25) (nmB (4 : Nat) (remB B nz_22) ez_23)) ∧
 ((@Eq (Int) (nz_26) (tkN (↑(4 : Nat) : Int) B nz_22 ez_23)) ∧
 (@Eq (Int) (ez_27) (tkE (↑(4 : Nat) : Int) (remB B nz_22) ez_23)))) → (((@Eq (Bool) true true) ∧
 (IsB (B) ∧
 InB (B) (nz_26))) ∧
 (∀ z_29 : Int, (∀ nz_30 : Int, (∀ ez_31 : Int, (((@Eq (Int) (z_29) (nmB (1 : Nat) (remB B nz_26) ez_27)) ∧
 ((@Eq (Int) (nz_30) (tkN (↑(1 : Nat) : Int) B nz_26 ez_27)) ∧
 (@Eq (Int) (ez_31) (tkE (↑(1 : Nat) : Int) (remB B nz_26) ez_27)))) → (bif eqRes BinOp.eql (k6 z_17 (0 : Int))
 then Q zz182 ⟨[zz164, zz181, (.cells [(zz2 B), (zz1 nz_30), (zz1 ez_31)]), (zz180 z_17 z_21 z_25)], []⟩
 else (bif decide (pas ≥ (1 : Int))
 then (bif eqRes BinOp.neq (k6 z_17 pas)
 then Q zz182 ⟨[zz164, zz181, (.cells [(zz2 B), (zz1 nz_30), (zz1 ez_31)]), (zz180 z_17 z_21 z_25)], []⟩
 else (bif eqRes BinOp.eql (k6 z_21 (1 : Int))
 then Q zz174 ⟨[zz164, zz172, (.cells [(zz2 B), (zz1 nz_30), (zz1 ez_31)]), (zz180 z_17 z_21 z_25)], []⟩
 else (bif eqRes BinOp.eql (k6 z_21 (2 : Int))
 then Q zz174 ⟨[zz164, zz172, (.cells [(zz2 B), (zz1 nz_30), (zz1 ez_31)]), (zz180 z_17 z_21 z_25)], []⟩
 else (bif eqRes BinOp.eql (keyEq (Value.int IntKind.u32 z_25) (Value.int IntKind.u32 (0 : Int)))
 then Q zz179 ⟨[zz164, zz178, (.cells [(zz2 B), (zz1 nz_30), (zz1 ez_31)]), (zz180 z_17 z_21 z_25)], []⟩
 else (((@Eq (Bool) true true) ∧
 (IsB (B) ∧
 InB (B) (nz_30))) ∧
 (bif eqRes BinOp.neq (k6 z_29 (leB (remB B nz_30) ez_31))
 then Q zz185 ⟨[zz164, zz165, (.cells [(zz2 B), (zz1 nz_30), (zz1 ez_31)]), (zz180 z_17 z_21 z_25)], []⟩
 else ((codeAt Tryz.prog q8F (1 : Nat) = codeAt Tryz.prog q8F (1 : Nat)) ∧
 (((@Eq (Option Nat) .none .none) ∧
 ((@Eq (Nat) 0 0) ∧
 ((@Eq (List Nat) [] []) ∧
 (True  ∧
 ((@Eq (VT) ⟨[zz164, zz62, (.cells [(zz2 B), (zz1 nz_30), (zz1 ez_31)]), (zz180 z_17 z_21 z_25)], []⟩ ⟨[zz164, zz62, (.cells [(zz2 B), (zz1 n), (zz1 e)]), (zz180 a h i)], []⟩) ∧
 ((@Eq (Bool) true true) ∧
 (@Eq (List TV) zz167 zz167))))))) ∧
 (bif ok
 then (∀ nz_33 : Int, (∀ ez_34 : Int, Q (.tup [(.agg [(zz1 a), (zz1 h), (zz7 i), (zz168 X kx)]), zz45]) ⟨[(zz169 a h i X kx), zz62, (.cells [(zz2 B), (zz1 nz_33), (zz1 ez_34)]), (zz169 a h i X kx)], tl1⟩))
 else (∀ rest : List VO, (∀ tlz : Tls, Q (zz176 s) ⟨[(.cells [(.val (.int .i64 0)), (.val (.int .i64 0)), (.val (.int .u32 0)), (.val (.slice .none 0 0))]), (.cells [(.val (.int .i64 2)), (.val (.int .i64 (s))), (.val (.slice .none 0 0))])] ++ rest, tlz⟩)))))))))))
 else (bif eqRes BinOp.eql (k6 z_21 (1 : Int))
 then Q zz174 ⟨[zz164, zz172, (.cells [(zz2 B), (zz1 nz_30), (zz1 ez_31)]), (zz180 z_17 z_21 z_25)], []⟩
 else (bif eqRes BinOp.eql (k6 z_21 (2 : Int))
 then Q zz174 ⟨[zz164, zz172, (.cells [(zz2 B), (zz1 nz_30), (zz1 ez_31)]), (zz180 z_17 z_21 z_25)], []⟩
 else (bif eqRes BinOp.eql (keyEq (Value.int IntKind.u32 z_25) (Value.int IntKind.u32 (0 : Int)))
 then Q zz179 ⟨[zz164, zz178, (.cells [(zz2 B), (zz1 nz_30), (zz1 ez_31)]), (zz180 z_17 z_21 z_25)], []⟩
 else (((@Eq (Bool) true true) ∧
 (IsB (B) ∧
 InB (B) (nz_30))) ∧
 (bif eqRes BinOp.neq (k6 z_29 (leB (remB B nz_30) ez_31))
 then Q zz185 ⟨[zz164, zz165, (.cells [(zz2 B), (zz1 nz_30), (zz1 ez_31)]), (zz180 z_17 z_21 z_25)], []⟩
 else ((codeAt Tryz.prog q8F (1 : Nat) = codeAt Tryz.prog q8F (1 : Nat)) ∧
 (((@Eq (Option Nat) .none .none) ∧
 ((@Eq (Nat) 0 0) ∧
 ((@Eq (List Nat) [] []) ∧
 (True  ∧
 ((@Eq (VT) ⟨[zz164, zz62, (.cells [(zz2 B), (zz1 nz_30), (zz1 ez_31)]), (zz180 z_17 z_21 z_25)], []⟩ ⟨[zz164, zz62, (.cells [(zz2 B), (zz1 n), (zz1 e)]), (zz180 a h i)], []⟩) ∧
 ((@Eq (Bool) true true) ∧
 (@Eq (List TV) zz167 zz167))))))) ∧
 (bif ok
 then (∀ nz_33 : Int, (∀ ez_34 : Int, Q (.tup [(.agg [(zz1 a), (zz1 h), (zz7 i), (zz168 X kx)]), zz45]) ⟨[(zz169 a h i X kx), zz62, (.cells [(zz2 B), (zz1 nz_33), (zz1 ez_34)]), (zz169 a h i X kx)], tl1⟩))
 else (∀ rest : List VO, (∀ tlz : Tls, Q (zz176 s) ⟨[(.cells [(.val (.int .i64 0)), (.val (.int .i64 0)), (.val (.int .u32 0)), (.val (.slice .none 0 0))]), (.cells [(.val (.int .i64 2)), (.val (.int .i64 (s))), (.val (.slice .none 0 0))])] ++ rest, tlz⟩)))))))))))))))))))))))))))))))))))))))) := by kernel_rfl
end Go.Proofs.YtogbdjlelkepcaaGreatDoor
namespace Go.Proofs.YtogbdjlelkepcaaGreatDoor
open Go.RowKit

def xF : List (Int × Bs) → TV
 | [] => .val (.slice none 0 0)
 | p :: l => .vec 2 ((p :: l).map cpE) (.tail 0 (p :: l).length)
def tF : List (Int × Bs) → Tls
 | [] => []
 | p :: l => [((p :: l).length, 2, true)]
theorem tF_len (l : List (Int × Bs)) : (tF l).length ≤ 1 := by cases l <;> simp [tF]
theorem xF_app (l : List (Int × Bs)) (p : Int × Bs) : xF (l ++ [p]) = .vec 2 ((l ++ [p]).map cpE) (.tail 0 (l ++ [p]).length) := by cases l <;> rfl
theorem tF_app (l : List (Int × Bs)) (p : Int × Bs) : tF (l ++ [p]) = [((l ++ [p]).length, 2, true)] := by cases l <;> rfl
theorem xF_ren {l : List (Int × Bs)} (h : AllB l) (f : Nat → Option Nat) : (xF l).ren f (Go.Proofs.YtogbdjlelkepcaaGreatDoor.keep 1) = xF l := by
 cases l with
 | nil => rfl
 | cons p l => simp only [xF, TV.ren, renLL_cp _ _ h, Tok.ren]; rfl
theorem tF_keep (l : List (Int × Bs)) : (tF l).take 1 = tF l := List.take_of_length_le (tF_len l)
theorem oC_ren {l : List (Int × Bs)} (h : AllB l) (f : Nat → Option Nat) (a b i : Int) : (oC a b i (xF l)).ren f (Go.Proofs.YtogbdjlelkepcaaGreatDoor.keep 1) = oC a b i (xF l) := by
 simp only [oC, VO.ren, renL, xF_ren h]; rfl
theorem c8Inf_ex : ∃ inf : TypeInfo, Tryz.prog.info? 102 = some inf ∧ inf.size = 2 ∧ inf.bytes + 1 ≤ 1000 ∧ inf.zero = some (.agg #[.int .i64 0, .slice none 0 0]) :=
 ⟨(Tryz.prog.info? 102).getD default, by kernel_rfl, by kernel_rfl, Nat.le_of_ble_eq_true (by kernel_rfl), by kernel_rfl⟩
theorem oturn_c8 {ro : Nat} {T T1 : VT} {s x : Operand} {l : List (Nat × TV)} {es es2 : List (List TV)} {k n : Nat} {bn : Bool} (hs : vadopt T 2 (evOf noGl l s) = some (es, k, n, bn, T1)) (hx : srcOf 2 (evOf noGl l x) = some es2) (hb : es.length + es2.length ≤ 2000001) :
    OTurn Tryz.prog noGl ro T (.call ⟨.builtin .append, #[s, x], #[68, 68]⟩) l (.vec 2 (es ++ es2) (.tail k (n + es2.length))) { T1 with tails := T1.tails.set k (n + es2.length, 2, bn) } := by
  obtain ⟨inf, i1, i2, i3, i4⟩ := c8Inf_ex
  have h := oturn_app (inf := inf) (P := Tryz.prog) (G := noGl) (ro := ro) (T := T) (T1 := T1) (t := 68) (tx := 68) (s := s) (x := x) (l := l) (es := es) (es2 := es2) (k := k) (n := n) (bn := bn) Tryz.underlying68 i1 i4 (by rw [i2]; rfl) (by rw [i2]; decide) (by kernel_rfl) (by rw [i2]; exact hs) (by rw [i2]; exact hx)
    (by have h1 := i3
        have h2 := Nat.mul_le_mul hb h1
        omega)
  rw [i2] at h
  exact h
theorem c8_app (objs : List VO) (l : List (Int × Bs)) (p : Int × Bs) (h : l.length ≤ 2000000) : OTurn Tryz.prog noGl 0 ⟨objs, tF l⟩ (.call ⟨.builtin .append, #[.tmp 115, .tmp 117], #[68, 68]⟩) [(115, xF l), (117, .vec 2 [cpE p] .full)] (.vec 2 ((l ++ [p]).map cpE) (.tail 0 (l ++ [p]).length)) ⟨objs, [((l ++ [p]).length, 2, true)]⟩ := by
 have h1 := oturn_c8 (ro := 0) (T := ⟨objs, tF l⟩) (T1 := ⟨objs, [(l.length, 2, true)]⟩) (s := .tmp 115) (x := .tmp 117) (l := [(115, xF l), (117, .vec 2 [cpE p] .full)]) (es := l.map cpE) (es2 := [cpE p]) (k := 0) (n := l.length) (bn := true)
  (by cases l <;> simp [evOf, evFind, vadopt, xF, tF]) rfl (by simp only [List.length_map, List.length_cons, List.length_nil]; omega)
 rw [show (l ++ [p]).map cpE = l.map cpE ++ [cpE p] by rw [List.map_append]; rfl, show (l ++ [p]).length = l.length + [cpE p].length by simp]
 exact h1
theorem cpRun_stop {k : Nat} {b : Bs} {e : Int} {acc : List (Int × Bs)} (h : ¬ e = 0) : cpRun (k + 1) b e acc = (b, e, acc) := by
 have : ¬ leB b e > 0 := fun c => h (le_pos c).1
 simp only [cpRun, decide_eq_false this, cond_false]
def rvN (B : Bs) (n e : Int) : Int := tkN (cvN (remB B n) e) B (tkN 1 B (tkN 1 B n e) (tkE 1 (remB B n) e)) (tkE 1 (tkR 1 (remB B n) e) (tkE 1 (remB B n) e))
theorem rvN_in {B : Bs} {n : Int} (h : InB B n) (e : Int) : InB B (rvN B n e) := tkN_in (tkN_in (tkN_in h _ _) _ _) _ _
theorem rv2 {B : Bs} {n : Int} (h : InB B n) (e : Int) : remB B (tkN 1 B (tkN 1 B n e) (tkE 1 (remB B n) e)) = tkR 1 (tkR 1 (remB B n) e) (tkE 1 (remB B n) e) := by
 rw [tkN_rem (tkN_in h 1 e) 1, tkN_rem h 1 e]
theorem rvN_rem {B : Bs} {n : Int} (h : InB B n) (e : Int) : remB B (rvN B n e) = cvB (remB B n) e := by
 unfold rvN
 rw [tkN_rem (tkN_in (tkN_in h 1 e) 1 _), rv2 h e]; rfl
theorem rv_eqs {B : Bs} {n : Int} (h : InB B n) {e z nz ez z2 n2 e2 n3 e3 : Int} {v : Bs} (h1 : z = nmB (1 : Nat) (remB B n) e ∧ nz = tkN (1 : Nat) B n e ∧ ez = tkE (1 : Nat) (remB B n) e) (h2 : z2 = nmB (1 : Nat) (remB B nz) ez ∧ n2 = tkN (1 : Nat) B nz ez ∧ e2 = tkE (1 : Nat) (remB B nz) ez) (h3 : v = tkB z2 (remB B n2) e2 ∧ n3 = tkN z2 B n2 e2 ∧ e3 = tkE z2 (remB B n2) e2) :
  z = cvC (remB B n) e ∧ v = cvV (remB B n) e ∧ n3 = rvN B n e ∧ e3 = cvZ (remB B n) e ∧ InB B nz ∧ InB B n2 := by
 obtain ⟨rfl, rfl, rfl⟩ := h1
 have r1 : remB B (tkN (1 : Nat) B n e) = tkR 1 (remB B n) e := tkN_rem h 1 e
 rw [r1] at h2
 obtain ⟨rfl, rfl, rfl⟩ := h2
 have r2 : remB B (tkN (1 : Nat) B (tkN (1 : Nat) B n e) (tkE (1 : Nat) (remB B n) e)) = tkR 1 (tkR 1 (remB B n) e) (tkE 1 (remB B n) e) := rv2 h e
 rw [r2] at h3
 obtain ⟨rfl, rfl, rfl⟩ := h3
 exact ⟨rfl, rfl, rfl, rfl, tkN_in h _ _, tkN_in (tkN_in h _ _) _ _⟩
structure ISt where
 m : Int
 acc : List (Int × Bs)
def inT (B C : Bs) (n e a h i : Int) (l : List (Int × Bs)) (m : Int) : VT := ⟨[zO, zF, rsO B n e, oC a h i (xF l), rsO C m 0], tF l⟩
def inPost (B C : Bs) (n e a h i : Int) (l0 : List (Int × Bs)) (ex : Exit) (vs : List TV) (T : VT) : Prop :=
 (cpO C 0 = true ∧ ex = .normal ∧ vs = inV ∧ ∃ mz ez : Int, T = ⟨[zO, zF, rsO B n e, oC a h i (xF (l0 ++ cpS C 0)), rsO C mz ez], tF (l0 ++ cpS C 0)⟩) ∨
 (cpO C 0 = false ∧ ex = .ret ∧ vs = inV ∧ ∃ (rest : List VO) (tlz : Tls), T = ⟨zO :: fF 0 :: rest, tlz⟩)
theorem inPost_ok {B C : Bs} {n e a h i : Int} {l0 : List (Int × Bs)} {K : KX} (hK : inR B C n e a h i (xF (l0 ++ cpS C 0)) (tF (l0 ++ cpS C 0)) (cpO C 0) K) {ex : Exit} {vs : List TV} {T : VT} (hp : inPost B C n e a h i l0 ex vs T) : K ex (slotsN 122 inK vs) T [] := by
 unfold inR at hK
 rcases hp with ⟨h1, rfl, rfl, mz, ez, rfl⟩ | ⟨h1, rfl, rfl, rest, tlz, rfl⟩
 ·rw [h1] at hK; exact hK mz ez
 ·rw [h1] at hK; exact hK rest tlz
theorem in_round {B C : Bs} (hB : IsB B) (hC : IsB C) (n e a h i : Int) {l0 : List (Int × Bs)} (hl0 : AllB l0) (hlen0 : l0.length + C.length ≤ 1000000) (K : KX) (hK : inR B C n e a h i (xF (l0 ++ cpS C 0)) (tF (l0 ++ cpS C 0)) (cpO C 0) K) :
    VWx Tryz.prog noGl none 0 (codeAt Tryz.prog q8F 3) (slotsN 122 inK inV) ⟨[zO, zF, rsO B n e, oC a h i (xF l0), rsO C 0 0], tF l0⟩ [] K := by
  refine loopK (f := q8F) (id := 3) (by kernel_rfl) 122 inK (fun s : ISt => (remB C s.m).length) (fun _ => inV) (fun s => inT B C n e a h i (l0 ++ s.acc) s.m) (fun s => InB C s.m ∧ AllB s.acc ∧ s.acc.length + (remB C s.m).length ≤ C.length ∧ cpRun ((remB C s.m).length + 1) (remB C s.m) 0 s.acc = cpF C 0) 5 1 (fun _ _ => ⟨Nat.le_refl _, tF_len _⟩)
    (inPost B C n e a h i l0) (fun s hs => ?_) ⟨0, []⟩ ⟨⟨Int.le_refl _, Int.natCast_nonneg _, hC.small⟩, .nil, by simp [remB], rfl⟩ K (fun ex vs T hp => inPost_ok hK hp) |> (fun w => by simpa only [inT, List.append_nil] using w)
  obtain ⟨m, acc⟩ := s
  obtain ⟨hm, ha, hlen, hgo⟩ := hs
  simp only at hm ha hlen hgo
  have hS : SpecsOk Tryz.prog noGl (specs [(rLeF, rlW), (rU8F, rnU .i64 1), (rByF, rbU)]) := specs_ok fun p hp => by
    rcases List.mem_cons.1 hp with rfl | hp; exact rLe_ok
    rcases List.mem_cons.1 hp with rfl | hp; exact fun ro ys T K h => rU8_ok _ _ _ _ (rnU_le h)
    obtain rfl := List.mem_singleton.1 hp; exact fun ro ys T K h => rBy_ok _ _ _ _ (rbU_le h)
  have hv := ev_8i B C n e m a h i (xF (l0 ++ acc)) ((l0 ++ acc ++ [(cvC (remB C m) 0, cvV (remB C m) 0)]).map cpE) (l0 ++ acc ++ [(cvC (remB C m) 0, cvV (remB C m) 0)]).length (tF (l0 ++ acc)) [((l0 ++ acc ++ [(cvC (remB C m) 0, cvV (remB C m) 0)]).length, 2, true)]
  refine vx_is mixedB_Tryz bodiesB_Tryz hS lsOk_none (hv _) ?_
  have hrem := remB_is hC m
  refine ⟨⟨rfl, hC, hm⟩, ?_⟩
  by_cases hl : leB (remB C m) 0 > 0
  · refine condT (decide_eq_true hl) ⟨⟨rfl, hC, hm⟩, ?_⟩
    intro z nz ez hq1
    refine ⟨⟨rfl, hC, by rw [hq1.2.1]; exact tkN_in hm _ _⟩, ?_⟩
    intro z2 n2 e2 hq2
    refine ⟨⟨rfl, hC, by rw [hq2.2.1, hq1.2.1]; exact tkN_in (tkN_in hm _ _) _ _⟩, ?_⟩
    intro v n3 e3 hq3
    obtain ⟨rfl, rfl, rfl, rfl, _, _⟩ := rv_eqs hm hq1 hq2 hq3
    have hlt := cv_len hl
    have hst := (cpRun_step (acc := acc) hl).symm.trans hgo
    have hv2 := cvV_is (e := 0) hrem
    by_cases hz : cvZ (remB C m) 0 = 0
    · refine condF (by rw [neI]; exact congrArg Bool.not (decide_eq_true hz)) ?_
      have ha2 := ha.app (.one (c := cvC (remB C m) 0) hv2)
      have hr := rvN_rem hm 0
      rw [hz] at hst ⊢
      have hAll := hl0.app ha2
      rw [← List.append_assoc] at hAll
      refine ⟨c8_app _ (l0 ++ acc) (cvC (remB C m) 0, cvV (remB C m) 0) (by simp only [List.length_append]; omega), rfl, rfl, ⟨rvN C m 0, acc ++ [(cvC (remB C m) 0, cvV (remB C m) 0)]⟩, ⟨rvN_in hm 0, ha2, by simp only [hr, List.length_append, List.length_cons, List.length_nil]; omega, by simp only [hr]; exact hst⟩, by simp only [hr]; omega, .inr ⟨?_, rfl⟩⟩
      refine (show VT.keep ⟨zO :: zF :: rsO B n e :: oC a h i (.vec 2 _ _) :: rsO C (rvN C m 0) 0 :: _, _⟩ 5 1 = _ from ?_)
      rw [← xF_app]
      simp only [VT.keep, List.take_succ_cons, List.take_zero, List.map_cons, List.map_nil, rsO_ren hB, rsO_ren hC, oC_ren hAll]
      unfold inT
      rw [← List.append_assoc, tF_app]
      rfl
    · refine condT (by rw [neI]; exact congrArg Bool.not (decide_eq_false hz)) ⟨rfl, rfl, .inr ⟨?_, rfl, rfl, _, _, rfl⟩⟩
      rw [cpRun_stop hz] at hst
      unfold cpO cpZ
      rw [← hst]
      exact decide_eq_false hz
  · have hE := (cpRun_end (acc := acc) hl).symm.trans hgo
    refine condF (decide_eq_false hl) ⟨rfl, rfl, .inl ⟨?_, rfl, rfl, m, 0, ?_⟩⟩
    · unfold cpO cpZ; rw [← hE]; rfl
    · unfold cpS; rw [← hE]; rfl
theorem in_loop {B C : Bs} (hB : IsB B) (hC : IsB C) (n e a h i : Int) {l0 : List (Int × Bs)} (hl0 : AllB l0) (hlen0 : l0.length + C.length ≤ 1000000) : LsOk Tryz.prog noGl (inL B C n e a h i (xF l0) (xF (l0 ++ cpS C 0)) (tF l0) (tF (l0 ++ cpS C 0)) (cpO C 0) (codeAt Tryz.prog q8F 3)) := specsL_ok fun p hp => by
 obtain rfl := List.mem_singleton.1 hp
 exact loopL_ok fun K hK => in_round hB hC n e a h i hl0 hlen0 K hK
structure OSt where
 n : Int
 e : Int
 acc : List (Int × Bs)
def paA (b : Bs) (e : Int) : List (Int × Bs) := match paF b e with
 | .ok l => l
 | .error _ => []
theorem paA_ok {b : Bs} {e : Int} {l : List (Int × Bs)} (h : paF b e = .ok l) : paA b e = l := by unfold paA; rw [h]
theorem paL_eq (b : Bs) (e : Int) : paL b e = (paA b e).map cpE := by unfold paL paA; cases paF b e <;> rfl
def ouPost (B : Bs) (n0 e0 a h i : Int) (ex : Exit) (vs : List TV) (T : VT) : Prop :=
 (paO (remB B n0) e0 = true ∧ ex = .normal ∧ vs = ouV ∧ ∃ nz ez : Int, T = ⟨[zO, zF, rsO B nz ez, oC a h i (xF (paA (remB B n0) e0))], tF (paA (remB B n0) e0)⟩) ∨
 (paO (remB B n0) e0 = false ∧ ex = .ret ∧ vs = ouV ∧ ∃ (rest : List VO) (tlz : Tls), T = ⟨zO :: fF (paS (remB B n0) e0) :: rest, tlz⟩)
theorem ouPost_ok {B : Bs} {n0 e0 a h i : Int} {K : KX} (hK : ouR B (paS (remB B n0) e0) a h i (xF (paA (remB B n0) e0)) (tF (paA (remB B n0) e0)) (paO (remB B n0) e0) K) {ex : Exit} {vs : List TV} {T : VT} (hp : ouPost B n0 e0 a h i ex vs T) : K ex (slotsN 122 ouK vs) T [] := by
 unfold ouR at hK
 rcases hp with ⟨h1, rfl, rfl, mz, ez, rfl⟩ | ⟨h1, rfl, rfl, rest, tlz, rfl⟩
 ·rw [h1] at hK; exact hK mz ez
 ·rw [h1] at hK; exact hK rest tlz
theorem ou_round {B : Bs} (hB : IsB B) {n0 : Int} (hn0 : InB B n0) (e0 a h i : Int) (K : KX) (hK : ouR B (paS (remB B n0) e0) a h i (xF (paA (remB B n0) e0)) (tF (paA (remB B n0) e0)) (paO (remB B n0) e0) K) :
    VWx Tryz.prog noGl none 0 (codeAt Tryz.prog q8F 1) (slotsN 122 ouK ouV) ⟨[zO, zF, rsO B n0 e0, oC a h i (.val (.slice none 0 0))], []⟩ [] K := by
  refine loopK (f := q8F) (id := 1) (by kernel_rfl) 122 ouK (fun s : OSt => (remB B s.n).length) (fun _ => ouV) (fun s => ⟨[zO, zF, rsO B s.n s.e, oC a h i (xF s.acc)], tF s.acc⟩) (fun s => InB B s.n ∧ AllB s.acc ∧ s.acc.length + (remB B s.n).length ≤ B.length ∧ paGo ((remB B s.n).length + 1) (remB B s.n) s.e s.acc = paF (remB B n0) e0) 4 1 (fun _ _ => ⟨Nat.le_refl _, tF_len _⟩)
    (ouPost B n0 e0 a h i) (fun s hs => ?_) ⟨n0, e0, []⟩ ⟨hn0, .nil, by simp [remB], rfl⟩ K (fun ex vs T hp => ouPost_ok hK hp)
  obtain ⟨n, e, acc⟩ := s
  obtain ⟨hn, ha, hlen, hgo⟩ := hs
  have hsm := hB.small
  simp only at hn ha hlen hgo
  have hS : SpecsOk Tryz.prog noGl (specs [(rLeF, rlW), (rU8F, rnU .i64 1), (rSuF, rsubU)]) := specs_ok fun p hp => by
    rcases List.mem_cons.1 hp with rfl | hp; exact rLe_ok
    rcases List.mem_cons.1 hp with rfl | hp; exact fun ro ys T K h => rU8_ok _ _ _ _ (rnU_le h)
    obtain rfl := List.mem_singleton.1 hp; exact fun ro ys T K h => rSu_ok _ _ _ _ (rsubU_le h)
  have hrem := remB_is hB n
  have hC := cvV_is (e := e) hrem
  have hCl : acc.length + (cvV (remB B n) e).length ≤ 1000000 := by
    have h1 : (cvV (remB B n) e).length ≤ (remB B n).length := by
      have h2 := tkR_le (n := 1) (b := remB B n) (e := e)
      have h3 := tkR_le (n := 1) (b := tkR 1 (remB B n) e) (e := tkE 1 (remB B n) e)
      have h4 := tk_len (cvN (remB B n) e) (tkR 1 (tkR 1 (remB B n) e) (tkE 1 (remB B n) e)) (tkE 1 (tkR 1 (remB B n) e) (tkE 1 (remB B n) e))
      unfold cvV
      omega
    omega
  have hv := ev_8o B (cvV (remB B n) e) n e (rvN B n e) (cvZ (remB B n) e) a h i (xF acc) (xF (acc ++ cpS (cvV (remB B n) e) 0)) (tF acc) (tF (acc ++ cpS (cvV (remB B n) e) 0)) (cpO (cvV (remB B n) e) 0)
  refine vx_is mixedB_Tryz bodiesB_Tryz hS (in_loop hB hC _ _ a h i ha hCl) (hv _) ?_
  refine ⟨⟨rfl, hB, hn⟩, ?_⟩
  by_cases hl : leB (remB B n) e > 0
  · refine condT (decide_eq_true hl) ⟨⟨rfl, hB, hn⟩, ?_⟩
    intro z nz ez hq1
    refine ⟨⟨rfl, hB, by rw [hq1.2.1]; exact tkN_in hn _ _⟩, ?_⟩
    intro z2 n2 e2 hq2
    refine ⟨⟨rfl, hB, by rw [hq2.2.1, hq1.2.1]; exact tkN_in (tkN_in hn _ _) _ _⟩, ?_⟩
    intro v n3 e3 hq3
    obtain ⟨rfl, rfl, rfl, rfl, _, _⟩ := rv_eqs hn hq1 hq2 hq3
    have hlt := cv_len hl
    have hst := paGo_step (acc := acc) hl
    rw [hgo] at hst
    by_cases hz : cvZ (remB B n) e = 0
    · rw [decide_eq_true hz, cond_true] at hst
      refine condF (by rw [neI]; exact congrArg Bool.not (decide_eq_true hz)) ?_
      by_cases hc : cvC (remB B n) e = 2
      · rw [decide_eq_true hc, cond_true] at hst
        obtain ⟨i1, i2, i3⟩ := cpF_is 0 hC
        refine condF (by rw [neI]; exact congrArg Bool.not (decide_eq_true hc)) ⟨rfl, ⟨rfl, rfl, rfl, trivial, rfl, rfl, rfl⟩, ?_⟩
        cases ho : cpO (cvV (remB B n) e) 0
        · rw [ho, cond_false] at hst
          obtain ⟨g1, _, g2⟩ := paO_err hst
          exact fun rest tlz => ⟨rfl, rfl, .inr ⟨g1, rfl, rfl, rest, tlz, by rw [g2]; rfl⟩⟩
        · rw [ho, cond_true] at hst
          have ha2 := ha.app i2
          have hr := rvN_rem hn e
          refine fun mz ez2 => ⟨rfl, rfl, ⟨rvN B n e, cvZ (remB B n) e, acc ++ cpS (cvV (remB B n) e) 0⟩, ⟨rvN_in hn e, ha2, by simp only [hr, List.length_append]; omega, by simp only [hr]; exact hst.symm⟩, by simp only [hr]; omega, .inr ⟨?_, rfl⟩⟩
          refine (show VT.keep ⟨zO :: zF :: rsO B (rvN B n e) (cvZ (remB B n) e) :: oC a h i (xF _) :: _, _⟩ 4 1 = _ from ?_)
          simp only [VT.keep, List.take_succ_cons, List.take_zero, List.map_cons, List.map_nil, rsO_ren hB, oC_ren ha2, tF_keep]
          rfl
      · rw [decide_eq_false hc, cond_false] at hst
        obtain ⟨g1, _, g2⟩ := paO_err hst
        exact condT (by rw [neI]; exact congrArg Bool.not (decide_eq_false hc)) ⟨rfl, rfl, .inr ⟨g1, rfl, rfl, _, _, by rw [g2]; rfl⟩⟩
    · rw [decide_eq_false hz, cond_false] at hst
      obtain ⟨g1, _, g2⟩ := paO_err hst
      exact condT (by rw [neI]; exact congrArg Bool.not (decide_eq_false hz)) ⟨rfl, rfl, .inr ⟨g1, rfl, rfl, _, _, by rw [g2]; rfl⟩⟩
  · have hE := (paGo_end (acc := acc) hl).symm.trans hgo
    refine condF (decide_eq_false hl) ⟨rfl, rfl, .inl ⟨(paO_ok hE.symm).1, rfl, rfl, n, e, ?_⟩⟩
    rw [paA_ok hE.symm]
    rfl
theorem ou_loop {B : Bs} (hB : IsB B) {n : Int} (hn : InB B n) (e a h i : Int) : LsOk Tryz.prog noGl (ouL B n e (paS (remB B n) e) a h i (xF (paA (remB B n) e)) (tF (paA (remB B n) e)) (paO (remB B n) e) (codeAt Tryz.prog q8F 1)) := specsL_ok fun p hp => by
 obtain rfl := List.mem_singleton.1 hp
 exact loopL_ok fun K hK => ou_round hB hn e a h i K hK
end Go.Proofs.YtogbdjlelkepcaaGreatDoor
namespace Go.Proofs.YtogbdjlelkepcaaGreatDoor
open Go.RowKit

theorem rem0 (B : Bs) : remB B 0 = B := rfl
theorem in0 {B : Bs} (h : IsB B) : InB B 0 := ⟨Int.le_refl _, Int.natCast_nonneg _, h.small⟩
theorem st8 {B R : Bs} {m : Nat} {n e z nz ez N E : Int} (hN : n = N) (hE : e = E) (hR : remB B N = R) (hq : z = nmB m (remB B n) e ∧ nz = tkN m B n e ∧ ez = tkE m (remB B n) e) : z = nmB m R E ∧ nz = tkN m B N E ∧ ez = tkE m R E := by
 subst hN hE hR; exact hq
def o1 (B : Bs) : Bs := tkR (1 : Nat) B 0
def g1 (B : Bs) : Int := tkE (1 : Nat) B 0
def m1 (B : Bs) : Int := tkN (1 : Nat) B 0 0
theorem m1_in {B : Bs} (h : IsB B) : InB B (m1 B) := tkN_in (in0 h) _ _
theorem m1_rem {B : Bs} (h : IsB B) : remB B (m1 B) = o1 B := by
 unfold m1
 rw [tkN_rem (in0 h)]; rfl
def o2 (B : Bs) : Bs := tkR (2 : Nat) (o1 B) (g1 B)
def g2 (B : Bs) : Int := tkE (2 : Nat) (o1 B) (g1 B)
def m2 (B : Bs) : Int := tkN (2 : Nat) B (m1 B) (g1 B)
theorem m2_in {B : Bs} (h : IsB B) : InB B (m2 B) := tkN_in (m1_in h) _ _
theorem m2_rem {B : Bs} (h : IsB B) : remB B (m2 B) = o2 B := by
 unfold m2
 rw [tkN_rem (m1_in h)]
 rw [m1_rem h]; rfl
def o3 (B : Bs) : Bs := tkR (2 : Nat) (o2 B) (g2 B)
def g3 (B : Bs) : Int := tkE (2 : Nat) (o2 B) (g2 B)
def m3 (B : Bs) : Int := tkN (2 : Nat) B (m2 B) (g2 B)
theorem m3_in {B : Bs} (h : IsB B) : InB B (m3 B) := tkN_in (m2_in h) _ _
theorem m3_rem {B : Bs} (h : IsB B) : remB B (m3 B) = o3 B := by
 unfold m3
 rw [tkN_rem (m2_in h)]
 rw [m2_rem h]; rfl
def o4 (B : Bs) : Bs := tkR (4 : Nat) (o3 B) (g3 B)
def g4 (B : Bs) : Int := tkE (4 : Nat) (o3 B) (g3 B)
def m4 (B : Bs) : Int := tkN (4 : Nat) B (m3 B) (g3 B)
theorem m4_in {B : Bs} (h : IsB B) : InB B (m4 B) := tkN_in (m3_in h) _ _
theorem m4_rem {B : Bs} (h : IsB B) : remB B (m4 B) = o4 B := by
 unfold m4
 rw [tkN_rem (m3_in h)]
 rw [m3_rem h]; rfl
def o5 (B : Bs) : Bs := tkR (1 : Nat) (o4 B) (g4 B)
def g5 (B : Bs) : Int := tkE (1 : Nat) (o4 B) (g4 B)
def m5 (B : Bs) : Int := tkN (1 : Nat) B (m4 B) (g4 B)
theorem m5_in {B : Bs} (h : IsB B) : InB B (m5 B) := tkN_in (m4_in h) _ _
theorem m5_rem {B : Bs} (h : IsB B) : remB B (m5 B) = o5 B := by
 unfold m5
 rw [tkN_rem (m4_in h)]
 rw [m4_rem h]; rfl
theorem o2_is {B : Bs} (h : IsB B) : IsB (o2 B) := tkR_is (tkR_is h)
theorem o5_is {B : Bs} (h : IsB B) : IsB (o5 B) := tkR_is (tkR_is (tkR_is (tkR_is (tkR_is h))))
theorem q8Sp : SpecsOk Tryz.prog noGl (specs [(rRdF, rreadW), (rU8F, rnU .i64 1), (rU16F, rnU .i64 2), (rU32F, rnU .u32 4), (rLeF, rlW)]) := specs_ok fun p hp => by
 rcases List.mem_cons.1 hp with rfl | hp; exact rRdW_ok
 rcases List.mem_cons.1 hp with rfl | hp; exact fun ro ys T K h => rU8_ok _ _ _ _ (rnU_le h)
 rcases List.mem_cons.1 hp with rfl | hp; exact fun ro ys T K h => rU16_ok _ _ _ _ (rnU_le h)
 rcases List.mem_cons.1 hp with rfl | hp; exact fun ro ys T K h => rU32_ok _ _ _ _ (rnU_le h)
 obtain rfl := List.mem_singleton.1 hp; exact rLe_ok
theorem paA_is {b : Bs} (hb : IsB b) (e : Int) : AllB (paA b e) := by
 unfold paA
 cases h : paF b e with
 | ok l => exact paGo_is _ _ _ _ hb .nil l h
 | error s => exact .nil
set_option maxHeartbeats 1000000 in
theorem q8_vcx {B : Bs} (hB : IsB B) (pas : Int) : VCx Tryz.prog noGl 0 q8F [.vec 1 B .none, .val (.int .i64 pas)] ⟨[], []⟩ fun x T' => x = opX B pas ∧ T' = ⟨[], []⟩ := by
  have hLoop := ou_loop hB (m5_in hB) (g5 B) (nmB 2 (o1 B) (g1 B)) (nmB 2 (o2 B) (g2 B)) (nmB 4 (o3 B) (g3 B))
  rw [m5_rem hB] at hLoop
  cases hA : paA (o5 B) (g5 B) with
  | nil =>
    rw [hA] at hLoop
    refine VCx.toLe (Q := fun T' => T' = ⟨[], []⟩) (VCx.keepQ 0 0 (Nat.le_refl _) (Nat.le_refl _) (vcallF_is mixedB_Tryz bodiesB_Tryz q8Sp hLoop (ev_8a B (m5 B) (g5 B) (paS (o5 B) (g5 B)) (nmB 2 (o1 B) (g1 B)) (nmB 2 (o2 B) (g2 B)) (nmB 4 (o3 B) (g3 B)) pas [] (paO (o5 B) (g5 B)) _) ?_))
    by_cases h10 : B.length < 10
    · refine condT (decide_eq_true (by omega)) ⟨?_, rfl⟩
      unfold opX; rw [if_pos h10]; exact op_fail 0
    refine condF (decide_eq_false (by omega)) ⟨⟨hB, hB.small⟩, ⟨rfl, hB, in0 hB⟩, ?_⟩
    intro z n1 e1 hq
    obtain ⟨hz, hN1, hE1⟩ := st8 (m := 1) rfl rfl (rem0 B) hq
    replace hN1 : n1 = m1 B := hN1
    replace hE1 : e1 = g1 B := hE1
    refine cond_of (fun c => ?_) (fun c => ?_)
    · refine ⟨?_, rfl⟩
      have h4 := neIt c; rw [hz] at h4
      unfold opX; rw [if_neg h10, if_pos h4]; exact op_fail1 _
    have h4 := neIf c; rw [hz] at h4
    have hX : opX B pas = opMid (o1 B) (g1 B) pas := by unfold opX; rw [if_neg h10, if_neg (fun c => c h4)]; rfl
    rw [hX]
    refine ⟨⟨rfl, hB, by rw [hN1]; exact m1_in hB⟩, ?_⟩
    intro n n2 e2 hq2
    obtain ⟨hz2, hN2, hE2⟩ := st8 (m := 2) hN1 hE1 (m1_rem hB) hq2
    replace hN2 : n2 = m2 B := hN2
    replace hE2 : e2 = g2 B := hE2
    refine ⟨⟨rfl, hB, by rw [hN2]; exact m2_in hB⟩, ?_⟩
    intro hh n3 e3 hq3
    obtain ⟨hz3, hN3, hE3⟩ := st8 (m := 2) hN2 hE2 (m2_rem hB) hq3
    replace hN3 : n3 = m3 B := hN3
    replace hE3 : e3 = g3 B := hE3
    refine ⟨⟨rfl, hB, by rw [hN3]; exact m3_in hB⟩, ?_⟩
    intro i n4 e4 hq4
    obtain ⟨hz4, hN4, hE4⟩ := st8 (m := 4) hN3 hE3 (m3_rem hB) hq4
    replace hN4 : n4 = m4 B := hN4
    replace hE4 : e4 = g4 B := hE4
    refine ⟨⟨rfl, hB, by rw [hN4]; exact m4_in hB⟩, ?_⟩
    intro k n5 e5 hq5
    obtain ⟨hz5, hN5, hE5⟩ := st8 (m := 1) hN4 hE4 (m4_rem hB) hq5
    replace hN5 : n5 = m5 B := hN5
    replace hE5 : e5 = g5 B := hE5
    have hM : opMid (o1 B) (g1 B) pas = opEnd n hh i k (o5 B) (g5 B) pas := by rw [hz2, hz3, hz4, hz5]; rfl
    rw [hM]
    have hhb : 0 ≤ hh ∧ hh < 65536 := by rw [hz3, nmB_eq]; exact nmI_lt (n := 2) (o2_is hB) (g2 B)
    clear hq hq2 hq3 hq4 hq5 hM hX
    refine cond_of (fun c1 => ?_) (fun c1 => ?_)
    · rw [opE_n (eqIt c1)]; exact ⟨op_fail 2, rfl⟩
    have d1 := eqIf c1
    refine cond_of (fun c2 => ?_) (fun c2 => ?_)
    · have d2 := of_decide_eq_true c2
      refine cond_of (fun c3 => ?_) (fun c3 => ?_)
      · rw [opE_p d1 d2 (neIt c3)]; exact ⟨op_fail 2, rfl⟩
      · have d3 : ¬ (pas ≥ 1 ∧ ¬ n = pas) := fun c => c.2 (neIf c3)
        refine cond_of (fun c4 => ?_) (fun c4 => ?_)
        · have d4 : ¬ (hh = 0 ∨ (hh ≥ 3 ∧ hh ≤ 65535)) := by have := eqIt c4; omega
          rw [opE_h d1 d3 d4]; exact ⟨op_fail 6, rfl⟩
        refine cond_of (fun c4a => ?_) (fun c4a => ?_)
        · have d4 : ¬ (hh = 0 ∨ (hh ≥ 3 ∧ hh ≤ 65535)) := by have := eqIt c4a; omega
          rw [opE_h d1 d3 d4]; exact ⟨op_fail 6, rfl⟩
        have d4 : hh = 0 ∨ (hh ≥ 3 ∧ hh ≤ 65535) := by
          have := eqIf c4
          have := eqIf c4a
          omega
        refine cond_of (fun c5 => ?_) (fun c5 => ?_)
        · rw [opE_i d1 d3 d4 (eqIt c5)]; exact ⟨op_fail 3, rfl⟩
        refine ⟨⟨rfl, hB, by rw [hN5]; exact m5_in hB⟩, ?_⟩
        rw [hN5, hE5, m5_rem hB]
        refine cond_of (fun c6 => ?_) (fun c6 => ?_)
        · rw [opE_k d1 d3 d4 (eqIf c5) (neIt c6)]; exact ⟨op_fail 0, rfl⟩
        rw [opE_e d1 d3 d4 (eqIf c5) (neIf c6)]
        refine ⟨rfl, ⟨rfl, rfl, rfl, trivial, by rw [hz2, hz3, hz4], rfl, rfl⟩, ?_⟩
        cases hO : paO (o5 B) (g5 B)
        · exact fun rest tlz => ⟨op_fail _, rfl⟩
        · refine fun nz ez => ⟨?_, rfl⟩
          rw [cond_true, paL_eq, hA, hz2, hz3, hz4]
          exact TVle.tup ⟨.agg ⟨.refl _, .refl _, .refl _, .nil 2, trivial⟩, .agg ⟨.refl _, .refl _, .nil 1, trivial⟩, trivial⟩
    · have d3 : ¬ (pas ≥ 1 ∧ ¬ n = pas) := fun c => of_decide_eq_false c2 c.1
      refine cond_of (fun c4 => ?_) (fun c4 => ?_)
      · have d4 : ¬ (hh = 0 ∨ (hh ≥ 3 ∧ hh ≤ 65535)) := by have := eqIt c4; omega
        rw [opE_h d1 d3 d4]; exact ⟨op_fail 6, rfl⟩
      refine cond_of (fun c4a => ?_) (fun c4a => ?_)
      · have d4 : ¬ (hh = 0 ∨ (hh ≥ 3 ∧ hh ≤ 65535)) := by have := eqIt c4a; omega
        rw [opE_h d1 d3 d4]; exact ⟨op_fail 6, rfl⟩
      have d4 : hh = 0 ∨ (hh ≥ 3 ∧ hh ≤ 65535) := by
        have := eqIf c4
        have := eqIf c4a
        omega
      refine cond_of (fun c5 => ?_) (fun c5 => ?_)
      · rw [opE_i d1 d3 d4 (eqIt c5)]; exact ⟨op_fail 3, rfl⟩
      refine ⟨⟨rfl, hB, by rw [hN5]; exact m5_in hB⟩, ?_⟩
      rw [hN5, hE5, m5_rem hB]
      refine cond_of (fun c6 => ?_) (fun c6 => ?_)
      · rw [opE_k d1 d3 d4 (eqIf c5) (neIt c6)]; exact ⟨op_fail 0, rfl⟩
      rw [opE_e d1 d3 d4 (eqIf c5) (neIf c6)]
      refine ⟨rfl, ⟨rfl, rfl, rfl, trivial, by rw [hz2, hz3, hz4], rfl, rfl⟩, ?_⟩
      cases hO : paO (o5 B) (g5 B)
      · exact fun rest tlz => ⟨op_fail _, rfl⟩
      · refine fun nz ez => ⟨?_, rfl⟩
        rw [cond_true, paL_eq, hA, hz2, hz3, hz4]
        exact TVle.tup ⟨.agg ⟨.refl _, .refl _, .refl _, .nil 2, trivial⟩, .agg ⟨.refl _, .refl _, .nil 1, trivial⟩, trivial⟩
  | cons p0 l0 =>
    have hAll := paA_is (o5_is hB) (g5 B)
    rw [hA] at hLoop hAll
    refine VCx.toLe (Q := fun T' => T' = ⟨[], []⟩) (VCx.keepQ 0 0 (Nat.le_refl _) (Nat.le_refl _) (vcallF_is mixedB_Tryz bodiesB_Tryz q8Sp hLoop (ev_8b B (m5 B) (g5 B) (paS (o5 B) (g5 B)) (nmB 2 (o1 B) (g1 B)) (nmB 2 (o2 B) (g2 B)) (nmB 4 (o3 B) (g3 B)) pas ((p0 :: l0).map cpE) (p0 :: l0).length [((p0 :: l0).length, 2, true)] (paO (o5 B) (g5 B)) _) ?_))
    by_cases h10 : B.length < 10
    · refine condT (decide_eq_true (by omega)) ⟨?_, rfl⟩
      unfold opX; rw [if_pos h10]; exact op_fail 0
    refine condF (decide_eq_false (by omega)) ⟨⟨hB, hB.small⟩, ⟨rfl, hB, in0 hB⟩, ?_⟩
    intro z n1 e1 hq
    obtain ⟨hz, hN1, hE1⟩ := st8 (m := 1) rfl rfl (rem0 B) hq
    replace hN1 : n1 = m1 B := hN1
    replace hE1 : e1 = g1 B := hE1
    refine cond_of (fun c => ?_) (fun c => ?_)
    · refine ⟨?_, rfl⟩
      have h4 := neIt c; rw [hz] at h4
      unfold opX; rw [if_neg h10, if_pos h4]; exact op_fail1 _
    have h4 := neIf c; rw [hz] at h4
    have hX : opX B pas = opMid (o1 B) (g1 B) pas := by unfold opX; rw [if_neg h10, if_neg (fun c => c h4)]; rfl
    rw [hX]
    refine ⟨⟨rfl, hB, by rw [hN1]; exact m1_in hB⟩, ?_⟩
    intro n n2 e2 hq2
    obtain ⟨hz2, hN2, hE2⟩ := st8 (m := 2) hN1 hE1 (m1_rem hB) hq2
    replace hN2 : n2 = m2 B := hN2
    replace hE2 : e2 = g2 B := hE2
    refine ⟨⟨rfl, hB, by rw [hN2]; exact m2_in hB⟩, ?_⟩
    intro hh n3 e3 hq3
    obtain ⟨hz3, hN3, hE3⟩ := st8 (m := 2) hN2 hE2 (m2_rem hB) hq3
    replace hN3 : n3 = m3 B := hN3
    replace hE3 : e3 = g3 B := hE3
    refine ⟨⟨rfl, hB, by rw [hN3]; exact m3_in hB⟩, ?_⟩
    intro i n4 e4 hq4
    obtain ⟨hz4, hN4, hE4⟩ := st8 (m := 4) hN3 hE3 (m3_rem hB) hq4
    replace hN4 : n4 = m4 B := hN4
    replace hE4 : e4 = g4 B := hE4
    refine ⟨⟨rfl, hB, by rw [hN4]; exact m4_in hB⟩, ?_⟩
    intro k n5 e5 hq5
    obtain ⟨hz5, hN5, hE5⟩ := st8 (m := 1) hN4 hE4 (m4_rem hB) hq5
    replace hN5 : n5 = m5 B := hN5
    replace hE5 : e5 = g5 B := hE5
    have hM : opMid (o1 B) (g1 B) pas = opEnd n hh i k (o5 B) (g5 B) pas := by rw [hz2, hz3, hz4, hz5]; rfl
    rw [hM]
    have hhb : 0 ≤ hh ∧ hh < 65536 := by rw [hz3, nmB_eq]; exact nmI_lt (n := 2) (o2_is hB) (g2 B)
    clear hq hq2 hq3 hq4 hq5 hM hX
    refine cond_of (fun c1 => ?_) (fun c1 => ?_)
    · rw [opE_n (eqIt c1)]; exact ⟨op_fail 2, rfl⟩
    have d1 := eqIf c1
    refine cond_of (fun c2 => ?_) (fun c2 => ?_)
    · have d2 := of_decide_eq_true c2
      refine cond_of (fun c3 => ?_) (fun c3 => ?_)
      · rw [opE_p d1 d2 (neIt c3)]; exact ⟨op_fail 2, rfl⟩
      · have d3 : ¬ (pas ≥ 1 ∧ ¬ n = pas) := fun c => c.2 (neIf c3)
        refine cond_of (fun c4 => ?_) (fun c4 => ?_)
        · have d4 : ¬ (hh = 0 ∨ (hh ≥ 3 ∧ hh ≤ 65535)) := by have := eqIt c4; omega
          rw [opE_h d1 d3 d4]; exact ⟨op_fail 6, rfl⟩
        refine cond_of (fun c4a => ?_) (fun c4a => ?_)
        · have d4 : ¬ (hh = 0 ∨ (hh ≥ 3 ∧ hh ≤ 65535)) := by have := eqIt c4a; omega
          rw [opE_h d1 d3 d4]; exact ⟨op_fail 6, rfl⟩
        have d4 : hh = 0 ∨ (hh ≥ 3 ∧ hh ≤ 65535) := by
          have := eqIf c4
          have := eqIf c4a
          omega
        refine cond_of (fun c5 => ?_) (fun c5 => ?_)
        · rw [opE_i d1 d3 d4 (eqIt c5)]; exact ⟨op_fail 3, rfl⟩
        refine ⟨⟨rfl, hB, by rw [hN5]; exact m5_in hB⟩, ?_⟩
        rw [hN5, hE5, m5_rem hB]
        refine cond_of (fun c6 => ?_) (fun c6 => ?_)
        · rw [opE_k d1 d3 d4 (eqIf c5) (neIt c6)]; exact ⟨op_fail 0, rfl⟩
        rw [opE_e d1 d3 d4 (eqIf c5) (neIf c6)]
        refine ⟨rfl, ⟨rfl, rfl, rfl, trivial, by rw [hz2, hz3, hz4], rfl, rfl⟩, ?_⟩
        cases hO : paO (o5 B) (g5 B)
        · exact fun rest tlz => ⟨op_fail _, rfl⟩
        · refine fun nz ez => ⟨?_, rfl⟩
          rw [cond_true, paL_eq, hA, hz2, hz3, hz4]
          simp only [TV.ren, renL, renLL_cp _ _ hAll]
          exact op_good _ _ _ _ _
    · have d3 : ¬ (pas ≥ 1 ∧ ¬ n = pas) := fun c => of_decide_eq_false c2 c.1
      refine cond_of (fun c4 => ?_) (fun c4 => ?_)
      · have d4 : ¬ (hh = 0 ∨ (hh ≥ 3 ∧ hh ≤ 65535)) := by have := eqIt c4; omega
        rw [opE_h d1 d3 d4]; exact ⟨op_fail 6, rfl⟩
      refine cond_of (fun c4a => ?_) (fun c4a => ?_)
      · have d4 : ¬ (hh = 0 ∨ (hh ≥ 3 ∧ hh ≤ 65535)) := by have := eqIt c4a; omega
        rw [opE_h d1 d3 d4]; exact ⟨op_fail 6, rfl⟩
      have d4 : hh = 0 ∨ (hh ≥ 3 ∧ hh ≤ 65535) := by
        have := eqIf c4
        have := eqIf c4a
        omega
      refine cond_of (fun c5 => ?_) (fun c5 => ?_)
      · rw [opE_i d1 d3 d4 (eqIt c5)]; exact ⟨op_fail 3, rfl⟩
      refine ⟨⟨rfl, hB, by rw [hN5]; exact m5_in hB⟩, ?_⟩
      rw [hN5, hE5, m5_rem hB]
      refine cond_of (fun c6 => ?_) (fun c6 => ?_)
      · rw [opE_k d1 d3 d4 (eqIf c5) (neIt c6)]; exact ⟨op_fail 0, rfl⟩
      rw [opE_e d1 d3 d4 (eqIf c5) (neIf c6)]
      refine ⟨rfl, ⟨rfl, rfl, rfl, trivial, by rw [hz2, hz3, hz4], rfl, rfl⟩, ?_⟩
      cases hO : paO (o5 B) (g5 B)
      · exact fun rest tlz => ⟨op_fail _, rfl⟩
      · refine fun nz ez => ⟨?_, rfl⟩
        rw [cond_true, paL_eq, hA, hz2, hz3, hz4]
        simp only [TV.ren, renL, renLL_cp _ _ hAll]
        exact op_good _ _ _ _ _
end Go.Proofs.YtogbdjlelkepcaaGreatDoor
namespace Go.Proofs.YtogbdjlelkepcaaGreatDoor
open Go.RowKit

abbrev spF := 117
abbrev q7SF := 123
def z7 : VO := .cells [.val (.int .i64 0), .val (.int .i64 0), .val (.slice none 0 0)]
def f7 (s : Int) : VO := .cells [.val (.int .i64 3), .val (.int .i64 s), .val (.slice none 0 0)]
abbrev Tl7 := List (Nat × Nat × Bool)
def spK : List Nat := [2, 3, 4, 5]
def spV (L : Bs) : List TV := [.val (.slice none 0 0), .ptr 0 0, .ptr 1 0, .vec 3 L (.tail 0 L.length)]
def spR (N : Nat) (O : Bs → Int → Int → VO) (L : Bs) (ok : Bool) (K : KX) : Prop := bif ok then (∀ (bz : Bs) (az ez : Int), K .normal (slotsN N spK (spV L)) ⟨[z7, O bz az ez], [(L.length, 3, true)]⟩ []) else ∀ (rest : List VO) (tlz : Tl7) (Lz : Bs), K .ret (slotsN N spK (spV Lz)) ⟨f7 1 :: rest, tlz⟩ []
def spL (N : Nat) (O : Bs → Int → Int → VO) (b L : Bs) (ok : Bool) (c0 : Code) : Nat → Option (LSpec × Code) := specsL [(0, loopL N spK [(5, 3)] (spV []) ⟨[z7, O b 0 0], [(0, 3, true)]⟩ (spR N O L ok), c0)]
theorem ev_sp (b L : Bs) (ok : Bool) (Q : TV → VT → Prop) : vcallF Tryz.prog noGl (specs [(wRdF, sreadW)]) noOra 300 (spL 41 srcO b L ok (codeAt Tryz.prog spF 0)) 0 spF [.vec 1 b .none] zz211 Q =
 (IsB (b) ∧
 ((codeAt Tryz.prog spF (0 : Nat) = codeAt Tryz.prog spF (0 : Nat)) ∧
 (((@Eq (Option Nat) .none .none) ∧
 ((@Eq (Nat) 0 0) ∧
 ((@Eq (List Nat) [] []) ∧
 (((@Eq (Option TV) (.some zz18) (.some zz18)) ∧
 True ) ∧
 ((@Eq (VT) ⟨[zz62, (.cells [zz133, (zz2 b), zz4, zz4])], [(0, (3, true))]⟩ ⟨[zz62, (.cells [zz133, (zz2 b), zz4, zz4])], [(0, (3, true))]⟩) ∧
 ((@Eq (Bool) true true) ∧
 (@Eq (List TV) zz162 zz162))))))) ∧
 (bif ok
 then (∀ bz : Bs, (∀ az : Int, (∀ ez : Int, Q (.tup [(zz159 L (List.length L)), zz45]) ⟨[zz62, (.cells [zz133, (zz2 bz), (zz1 az), (zz1 ez)])], [((List.length L), (3, true))]⟩)))
 else (∀ rest : List VO, (∀ tlz : Tl7, (∀ Lz : Bs, Q zz161 ⟨[(.cells [(.val (.int .i64 3)), (.val (.int .i64 1)), (.val (.slice .none 0 0))])] ++ rest, tlz⟩))))))) := by kernel_rfl
theorem ev_spA (b L : Bs) (p : List TV) (a : Int) (Q : Exit → List TV → VT → List Nat → Nat → Prop) : vx Tryz.prog noGl (specs [(wLeF, slW), (wU8F, snU .i64 1), (wU16F, snU .i64 2), (wByF, sbU), (wErF, seW)]) (tellS [(999999, .dead, none), (38, .vec 3 (L ++ [p]) (.tail 0 (L.length + 1)), some fun T => { T with tails := [(L.length + 1, 3, true)] })]) 300 noLp none 0 (loopAt Tryz.prog spF 0) (slotsN 41 spK (spV L)) ⟨[z7, srcO b a 0], [(L.length, 3, true)]⟩ [] (pickS spK Q) =
 (((@Eq (Bool) true true) ∧
 IsB (b)) ∧
 (bif decide (leB b (0 : Int) > (0 : Int))
 then (((@Eq (Bool) true true) ∧
 IsB (b)) ∧
 (∀ z : Int, (∀ bz : Bs, (∀ az : Int, (∀ ez : Int, (((@Eq (Int) (z) (nmB (1 : Nat) b (0 : Int))) ∧
 ((@Eq (Bs) (bz) (tkR (↑(1 : Nat) : Int) b (0 : Int))) ∧
 (@Eq (Int) (ez) (tkE (↑(1 : Nat) : Int) b (0 : Int))))) → (((@Eq (Bool) true true) ∧
 IsB (bz)) ∧
 (∀ z_10 : Int, (∀ bz_11 : Bs, (∀ az_12 : Int, (∀ ez_13 : Int, (((@Eq (Int) (z_10) (nmB (1 : Nat) bz ez)) ∧
 ((@Eq (Bs) (bz_11) (tkR (↑(1 : Nat) : Int) bz ez)) ∧
 (@Eq (Int) (ez_13) (tkE (↑(1 : Nat) : Int) bz ez)))) → (bif eqRes BinOp.neq (k6 (IntKind.wrap IntKind.i64 (↑(BitVec.toNat (BitVec.ofInt (IntKind.bits IntKind.i64) z &&& BitVec.ofInt (IntKind.bits IntKind.i64) (16 : Int))) : Int)) (0 : Int))
 then (((@Eq (Bool) true true) ∧
 IsB (bz_11)) ∧
 (∀ z_15 : Int, (∀ bz_16 : Bs, (∀ az_17 : Int, (∀ ez_18 : Int, (((@Eq (Int) (z_15) (nmB (2 : Nat) bz_11 ez_13)) ∧
 ((@Eq (Bs) (bz_16) (tkR (↑(2 : Nat) : Int) bz_11 ez_13)) ∧
 (@Eq (Int) (ez_18) (tkE (↑(2 : Nat) : Int) bz_11 ez_13)))) → (((@Eq (Bool) true true) ∧
 IsB (bz_16)) ∧
 (∀ v : Bs, (∀ bz_21 : Bs, (∀ az_22 : Int, (∀ ez_23 : Int, (((@Eq (Bs) (v) (tkB z_15 bz_16 ez_18)) ∧
 ((@Eq (Bs) (bz_21) (tkR z_15 bz_16 ez_18)) ∧
 (@Eq (Int) (ez_23) (tkE z_15 bz_16 ez_18)))) → (((@Eq (Bool) true true) ∧
 IsB (bz_21)) ∧
 (bif eqRes BinOp.neq (k6 ez_23 (0 : Int))
 then Q .ret (zz160 L (List.length L)) ⟨[zz158, (.cells [zz133, (zz2 bz_21), (zz1 az_22), (zz1 ez_23)]), (zz11 z z_10 v)], [((List.length L), (3, true))]⟩ [] 41
 else (OTurn Tryz.prog (fun _ => .none) 0 ⟨[zz62, (.cells [zz133, (zz2 bz_21), (zz1 az_22), (zz1 ez_23)]), (zz11 z z_10 v)], [((List.length L), (3, true))]⟩ (.call ⟨(.builtin .append), #[(.tmp 35), (.tmp 37)], #[199, 199]⟩) [(35, (zz159 L (List.length L))), (37, (.vec 3 [[(.val (.int .i64 (z))), (.val (.int .i64 (z_10))), (.vec 1 (v) .none)]] .full))] (zz159 (L ++ [p]) (List.length L + (1 : Nat))) ⟨[zz62, (.cells [zz133, (zz2 bz_21), (zz1 az_22), (zz1 ez_23)]), (zz11 z z_10 v)], [((List.length L + (1 : Nat)), (3, true))]⟩ ∧
 Q .normal (zz160 (L ++ [p]) (List.length L + (1 : Nat))) ⟨[zz62, (.cells [zz133, (zz2 bz_21), (zz1 az_22), (zz1 ez_23)]), (zz11 z z_10 v)], [((List.length L + (1 : Nat)), (3, true))]⟩ [] 41)))))))))))))))
 else (((@Eq (Bool) true true) ∧
 IsB (bz_11)) ∧
 (∀ z_15 : Int, (∀ bz_16 : Bs, (∀ az_17 : Int, (∀ ez_18 : Int, (((@Eq (Int) (z_15) (nmB (1 : Nat) bz_11 ez_13)) ∧
 ((@Eq (Bs) (bz_16) (tkR (↑(1 : Nat) : Int) bz_11 ez_13)) ∧
 (@Eq (Int) (ez_18) (tkE (↑(1 : Nat) : Int) bz_11 ez_13)))) → (((@Eq (Bool) true true) ∧
 IsB (bz_16)) ∧
 (∀ v : Bs, (∀ bz_21 : Bs, (∀ az_22 : Int, (∀ ez_23 : Int, (((@Eq (Bs) (v) (tkB z_15 bz_16 ez_18)) ∧
 ((@Eq (Bs) (bz_21) (tkR z_15 bz_16 ez_18)) ∧
 (@Eq (Int) (ez_23) (tkE z_15 bz_16 ez_18)))) → (((@Eq (Bool) true true) ∧
 IsB (bz_21)) ∧
 (bif eqRes BinOp.neq (k6 ez_23 (0 : Int))
 then Q .ret (zz160 L (List.length L)) ⟨[zz158, (.cells [zz133, (zz2 bz_21), (zz1 az_22), (zz1 ez_23)]), (zz11 z z_10 v)], [((List.length L), (3, true))]⟩ [] 41
 else (OTurn Tryz.prog (fun _ => .none) 0 ⟨[zz62, (.cells [zz133, (zz2 bz_21), (zz1 az_22), (zz1 ez_23)]), (zz11 z z_10 v)], [((List.length L), (3, true))]⟩ (.call ⟨(.builtin .append), #[(.tmp 35), (.tmp 37)], #[199, 199]⟩) [(35, (zz159 L (List.length L))), (37, (.vec 3 [[(.val (.int .i64 (z))), (.val (.int .i64 (z_10))), (.vec 1 (v) .none)]] .full))] (zz159 (L ++ [p]) (List.length L + (1 : Nat))) ⟨[zz62, (.cells [zz133, (zz2 bz_21), (zz1 az_22), (zz1 ez_23)]), (zz11 z z_10 v)], [((List.length L + (1 : Nat)), (3, true))]⟩ ∧
 Q .normal (zz160 (L ++ [p]) (List.length L + (1 : Nat))) ⟨[zz62, (.cells [zz133, (zz2 bz_21), (zz1 az_22), (zz1 ez_23)]), (zz11 z z_10 v)], [((List.length L + (1 : Nat)), (3, true))]⟩ [] 41))))))))))))))))))))))))))))
 else Q (.exit 0) (zz160 L (List.length L)) ⟨[zz62, (.cells [zz133, (zz2 b), (zz1 a), zz4])], [((List.length L), (3, true))]⟩ [] 41)) := by kernel_rfl
theorem ev_q7S (b L : Bs) (ok : Bool) (Q : TV → VT → Prop) : vcallF Tryz.prog noGl (specs [(rRdF, rreadW)]) noOra 300 (spL 43 rsO b L ok (codeAt Tryz.prog q7SF 0)) 0 q7SF [.vec 1 b .none] zz211 Q =
 ((IsB (b) ∧
 SmB (b)) ∧
 ((codeAt Tryz.prog q7SF (0 : Nat) = codeAt Tryz.prog q7SF (0 : Nat)) ∧
 (((@Eq (Option Nat) .none .none) ∧
 ((@Eq (Nat) 0 0) ∧
 ((@Eq (List Nat) [] []) ∧
 (((@Eq (Option TV) (.some zz18) (.some zz18)) ∧
 True ) ∧
 ((@Eq (VT) ⟨[zz62, (.cells [(zz2 b), zz4, zz4])], [(0, (3, true))]⟩ ⟨[zz62, (.cells [(zz2 b), zz4, zz4])], [(0, (3, true))]⟩) ∧
 ((@Eq (Bool) true true) ∧
 (@Eq (List TV) zz162 zz162))))))) ∧
 (bif ok
 then (∀ bz : Bs, (∀ az : Int, (∀ ez : Int, Q (.tup [(zz159 L (List.length L)), zz45]) ⟨[zz62, (.cells [(zz2 bz), (zz1 az), (zz1 ez)])], [((List.length L), (3, true))]⟩)))
 else (∀ rest : List VO, (∀ tlz : Tl7, (∀ Lz : Bs, Q zz161 ⟨[(.cells [(.val (.int .i64 3)), (.val (.int .i64 1)), (.val (.slice .none 0 0))])] ++ rest, tlz⟩))))))) := by kernel_rfl
theorem ev_q7SA (B L : Bs) (p : List TV) (n : Int) (Q : Exit → List TV → VT → List Nat → Nat → Prop) : vx Tryz.prog noGl (specs [(rLeF, rlW), (rU8F, rnU .i64 1), (rU16F, rnU .i64 2), (rByF, rbU)]) (tellS [(999999, .dead, none), (40, .vec 3 (L ++ [p]) (.tail 0 (L.length + 1)), some fun T => { T with tails := [(L.length + 1, 3, true)] })]) 300 noLp none 0 (loopAt Tryz.prog q7SF 0) (slotsN 43 spK (spV L)) ⟨[z7, rsO B n 0], [(L.length, 3, true)]⟩ [] (pickS spK Q) =
 (((@Eq (Bool) true true) ∧
 (IsB (B) ∧
 InB (B) (n))) ∧
 (bif decide (leB (remB B n) (0 : Int) > (0 : Int))
 then (((@Eq (Bool) true true) ∧
 (IsB (B) ∧
 InB (B) (n))) ∧
 (∀ z : Int, (∀ nz : Int, (∀ ez : Int, (((@Eq (Int) (z) (nmB (1 : Nat) (remB B n) (0 : Int))) ∧
 ((@Eq (Int) (nz) (tkN (↑(1 : Nat) : Int) B n (0 : Int))) ∧
 (@Eq (Int) (ez) (tkE (↑(1 : Nat) : Int) (remB B n) (0 : Int))))) → (((@Eq (Bool) true true) ∧
 (IsB (B) ∧
 InB (B) (nz))) ∧
 (∀ z_9 : Int, (∀ nz_10 : Int, (∀ ez_11 : Int, (((@Eq (Int) (z_9) (nmB (1 : Nat) (remB B nz) ez)) ∧
 ((@Eq (Int) (nz_10) (tkN (↑(1 : Nat) : Int) B nz ez)) ∧
 (@Eq (Int) (ez_11) (tkE (↑(1 : Nat) : Int) (remB B nz) ez)))) → (bif eqRes BinOp.neq (k6 (IntKind.wrap IntKind.i64 (↑(BitVec.toNat (BitVec.ofInt (IntKind.bits IntKind.i64) z &&& BitVec.ofInt (IntKind.bits IntKind.i64) (16 : Int))) : Int)) (0 : Int))
 then (((@Eq (Bool) true true) ∧
 (IsB (B) ∧
 InB (B) (nz_10))) ∧
 (∀ z_13 : Int, (∀ nz_14 : Int, (∀ ez_15 : Int, (((@Eq (Int) (z_13) (nmB (2 : Nat) (remB B nz_10) ez_11)) ∧
 ((@Eq (Int) (nz_14) (tkN (↑(2 : Nat) : Int) B nz_10 ez_11)) ∧
 (@Eq (Int) (ez_15) (tkE (↑(2 : Nat) : Int) (remB B nz_10) ez_11)))) → (((@Eq (Bool) true true) ∧
 (IsB (B) ∧
 InB (B) (nz_14))) ∧
 (∀ v : Bs, (∀ nz_18 : Int, (∀ ez_19 : Int, (((@Eq (Bs) (v) (tkB z_13 (remB B nz_14) ez_15)) ∧
 ((@Eq (Int) (nz_18) (tkN z_13 B nz_14 ez_15)) ∧
 (@Eq (Int) (ez_19) (tkE z_13 (remB B nz_14) ez_15)))) → (bif eqRes BinOp.neq (k6 ez_19 (0 : Int))
 then Q .ret (zz160 L (List.length L)) ⟨[zz158, (.cells [(zz2 B), (zz1 nz_18), (zz1 ez_19)]), (zz11 z z_9 v), zz158], [((List.length L), (3, true))]⟩ [] 43
 else (OTurn Tryz.prog (fun _ => .none) 0 ⟨[zz62, (.cells [(zz2 B), (zz1 nz_18), (zz1 ez_19)]), (zz11 z z_9 v)], [((List.length L), (3, true))]⟩ (.call ⟨(.builtin .append), #[(.tmp 37), (.tmp 39)], #[209, 209]⟩) [(37, (zz159 L (List.length L))), (39, (.vec 3 [[(.val (.int .i64 (z))), (.val (.int .i64 (z_9))), (.vec 1 (v) .none)]] .full))] (zz159 (L ++ [p]) (List.length L + (1 : Nat))) ⟨[zz62, (.cells [(zz2 B), (zz1 nz_18), (zz1 ez_19)]), (zz11 z z_9 v)], [((List.length L + (1 : Nat)), (3, true))]⟩ ∧
 Q .normal (zz160 (L ++ [p]) (List.length L + (1 : Nat))) ⟨[zz62, (.cells [(zz2 B), (zz1 nz_18), (zz1 ez_19)]), (zz11 z z_9 v)], [((List.length L + (1 : Nat)), (3, true))]⟩ [] 43))))))))))))
 else (((@Eq (Bool) true true) ∧
 (IsB (B) ∧
 InB (B) (nz_10))) ∧
 (∀ z_13 : Int, (∀ nz_14 : Int, (∀ ez_15 : Int, (((@Eq (Int) (z_13) (nmB (1 : Nat) (remB B nz_10) ez_11)) ∧
 ((@Eq (Int) (nz_14) (tkN (↑(1 : Nat) : Int) B nz_10 ez_11)) ∧
 (@Eq (Int) (ez_15) (tkE (↑(1 : Nat) : Int) (remB B nz_10) ez_11)))) → (((@Eq (Bool) true true) ∧
 (IsB (B) ∧
 InB (B) (nz_14))) ∧
 (∀ v : Bs, (∀ nz_18 : Int, (∀ ez_19 : Int, (((@Eq (Bs) (v) (tkB z_13 (remB B nz_14) ez_15)) ∧
 ((@Eq (Int) (nz_18) (tkN z_13 B nz_14 ez_15)) ∧
 (@Eq (Int) (ez_19) (tkE z_13 (remB B nz_14) ez_15)))) → (bif eqRes BinOp.neq (k6 ez_19 (0 : Int))
 then Q .ret (zz160 L (List.length L)) ⟨[zz158, (.cells [(zz2 B), (zz1 nz_18), (zz1 ez_19)]), (zz11 z z_9 v), zz158], [((List.length L), (3, true))]⟩ [] 43
 else (OTurn Tryz.prog (fun _ => .none) 0 ⟨[zz62, (.cells [(zz2 B), (zz1 nz_18), (zz1 ez_19)]), (zz11 z z_9 v)], [((List.length L), (3, true))]⟩ (.call ⟨(.builtin .append), #[(.tmp 37), (.tmp 39)], #[209, 209]⟩) [(37, (zz159 L (List.length L))), (39, (.vec 3 [[(.val (.int .i64 (z))), (.val (.int .i64 (z_9))), (.vec 1 (v) .none)]] .full))] (zz159 (L ++ [p]) (List.length L + (1 : Nat))) ⟨[zz62, (.cells [(zz2 B), (zz1 nz_18), (zz1 ez_19)]), (zz11 z z_9 v)], [((List.length L + (1 : Nat)), (3, true))]⟩ ∧
 Q .normal (zz160 (L ++ [p]) (List.length L + (1 : Nat))) ⟨[zz62, (.cells [(zz2 B), (zz1 nz_18), (zz1 ez_19)]), (zz11 z z_9 v)], [((List.length L + (1 : Nat)), (3, true))]⟩ [] 43)))))))))))))))))))))))
 else Q (.exit 0) (zz160 L (List.length L)) ⟨[zz62, (.cells [(zz2 B), (zz1 n), zz4])], [((List.length L), (3, true))]⟩ [] 43)) := by kernel_rfl
end Go.Proofs.YtogbdjlelkepcaaGreatDoor
namespace Go.Proofs.YtogbdjlelkepcaaGreatDoor
open Go.RowKit

def exF (z : Int) : Bool := eqRes BinOp.neq (keyEq (Value.int IntKind.i64 (IntKind.wrap IntKind.i64 (BitVec.toNat (BitVec.ofInt (IntKind.bits IntKind.i64) z &&& BitVec.ofInt (IntKind.bits IntKind.i64) (16 : Int)) : Nat))) (Value.int IntKind.i64 (0 : Int)))
def saC (b : Bs) : Int := nmB 1 b 0
def szK (b : Bs) : Nat := bif exF (saC b) then 2 else 1
def saT (b : Bs) : Int := nmB 1 (tkR 1 b 0) (tkE 1 b 0)
def saR2 (b : Bs) : Bs := tkR 1 (tkR 1 b 0) (tkE 1 b 0)
def saE2 (b : Bs) : Int := tkE 1 (tkR 1 b 0) (tkE 1 b 0)
def saN (b : Bs) : Int := nmB (szK b) (saR2 b) (saE2 b)
def saR3 (b : Bs) : Bs := tkR (szK b) (saR2 b) (saE2 b)
def saE3 (b : Bs) : Int := tkE (szK b) (saR2 b) (saE2 b)
def saV (b : Bs) : Bs := tkB (saN b) (saR3 b) (saE3 b)
def saB (b : Bs) : Bs := tkR (saN b) (saR3 b) (saE3 b)
def saZ (b : Bs) : Int := tkE (saN b) (saR3 b) (saE3 b)
abbrev Rw3 := Int × Int × Bs
def saGo : Nat → Bs → List Rw3 → Option (List Rw3)
 | 0, _, _ => none
 | k + 1, b, acc => bif decide (leB b 0 > 0) then (bif decide (saZ b = 0) then saGo k (saB b) (acc ++ [(saC b, saT b, saV b)]) else none) else some acc
def saP (b : Bs) : Option (List Rw3) := saGo (b.length + 1) b []
def saE (p : Rw3) : List TV := [.val (.int .i64 p.1), .val (.int .i64 p.2.1), .vec 1 p.2.2 .none]
def saA (b : Bs) : List Rw3 := (saP b).getD []
def saL (b : Bs) : Bs := (saA b).map saE
def saO (b : Bs) : Bool := (saP b).isSome
def saX (b : Bs) : TV := .tup [.vec 3 (saL b) .none, .agg [.val (.int .i64 (bif saO b then 0 else 3)), .val (.int .i64 (bif saO b then 0 else 1)), .vec 1 [] .none]]
def All3 (l : List Rw3) : Prop := ∀ p ∈ l, IsB p.2.2
theorem All3.nil : All3 [] := fun p hp => by simp at hp
theorem All3.snoc {l : List Rw3} (h : All3 l) {c t : Int} {v : Bs} (hv : IsB v) : All3 (l ++ [(c, t, v)]) := fun p hp => by
 rcases List.mem_append.1 hp with h1 | h1
 ·exact h p h1
 ·obtain rfl := List.mem_singleton.1 h1; exact hv
theorem renLL_sa (f g : Nat → Option Nat) : ∀ {l : List Rw3}, All3 l → renLL f g (l.map saE) = l.map saE
 | [], _ => rfl
 | a :: l, h => by
  have h1 := renLL_sa f g (l := l) fun p hp => h p (List.mem_cons_of_mem _ hp)
  have h2 := (h a List.mem_cons_self).ren f g
  simp only [List.map_cons, renLL, h1, saE, renL, TV.ren, h2, Tok.ren]
theorem saV_is {b : Bs} (h : IsB b) : IsB (saV b) := tkB_is (tkR_is (tkR_is (tkR_is h)))
theorem saB_is {b : Bs} (h : IsB b) : IsB (saB b) := tkR_is (tkR_is (tkR_is (tkR_is h)))
theorem saB_lt {b : Bs} (h : leB b 0 > 0) : (saB b).length < b.length := by
 have h1 := tk1_len h
 have h2 := tkR_le (n := 1) (b := tkR 1 b 0) (e := tkE 1 b 0)
 have h3 := tkR_le (n := szK b) (b := saR2 b) (e := saE2 b)
 have h4 := tkR_le (n := saN b) (b := saR3 b) (e := saE3 b)
 unfold saB
 unfold saR2 at h3
 unfold saR3 saR2 at h4
 unfold saR3 saR2
 omega
theorem saGo_fuel : ∀ (k j : Nat) (b : Bs) (acc : List Rw3), b.length < k → b.length < j → saGo k b acc = saGo j b acc
 | 0, _, _, _, h, _ => absurd h (Nat.not_lt_zero _)
 | _, 0, _, _, _, h => absurd h (Nat.not_lt_zero _)
 | k + 1, j + 1, b, acc, h1, h2 => by
  unfold saGo
  by_cases hl : leB b 0 > 0
  ·have := saB_lt hl
   rw [decide_eq_true hl, saGo_fuel k j (saB b) _ (by omega) (by omega)]
  ·rw [decide_eq_false hl]; rfl
theorem saGo_step {b : Bs} {acc : List Rw3} (hl : leB b 0 > 0) (hz : saZ b = 0) : saGo (b.length + 1) b acc = saGo ((saB b).length + 1) (saB b) (acc ++ [(saC b, saT b, saV b)]) := by
 have := saB_lt hl
 rw [saGo_fuel ((saB b).length + 1) b.length (saB b) _ (by omega) (by omega)]
 simp only [saGo, decide_eq_true hl, decide_eq_true hz, cond_true]
theorem saGo_bad {b : Bs} {acc : List Rw3} (hl : leB b 0 > 0) (hz : ¬ saZ b = 0) : saGo (b.length + 1) b acc = none := by
 simp only [saGo, decide_eq_true hl, decide_eq_false hz, cond_true, cond_false]
theorem saGo_end {b : Bs} {acc : List Rw3} (hl : ¬ leB b 0 > 0) : saGo (b.length + 1) b acc = some acc := by
 simp only [saGo, decide_eq_false hl, cond_false]
theorem saGo_is : ∀ (k : Nat) (b : Bs) (acc : List Rw3), IsB b → All3 acc → ∀ l, saGo k b acc = some l → All3 l
 | 0, _, _, _, _, l, h => by cases h
 | k + 1, b, acc, hb, ha, l, h => by
  unfold saGo at h
  cases h1 : decide (leB b 0 > 0) <;> rw [h1] at h
  ·injection h with h; subst h; exact ha
  ·cases h2 : decide (saZ b = 0) <;> rw [h2] at h
   ·cases h
   ·exact saGo_is k _ _ (saB_is hb) (ha.snoc (saV_is hb)) l h
theorem saA_is {b : Bs} (hb : IsB b) : All3 (saA b) := by
 unfold saA
 cases h : saP b with
 | none => exact .nil
 | some l => exact saGo_is _ _ _ hb .nil l h
theorem sa_eqs {b : Bs} {k : Nat} (hk : szK b = k) {z ez z2 e2 z3 e3 e4 : Int} {bz b2 b3 v b4 : Bs} (h1 : z = nmB (1 : Nat) b 0 ∧ bz = tkR (1 : Nat) b 0 ∧ ez = tkE (1 : Nat) b 0) (h2 : z2 = nmB (1 : Nat) bz ez ∧ b2 = tkR (1 : Nat) bz ez ∧ e2 = tkE (1 : Nat) bz ez) (h3 : z3 = nmB k b2 e2 ∧ b3 = tkR k b2 e2 ∧ e3 = tkE k b2 e2) (h4 : v = tkB z3 b3 e3 ∧ b4 = tkR z3 b3 e3 ∧ e4 = tkE z3 b3 e3) :
  z = saC b ∧ z2 = saT b ∧ v = saV b ∧ b4 = saB b ∧ e4 = saZ b := by
 obtain ⟨rfl, rfl, rfl⟩ := h1
 obtain ⟨rfl, rfl, rfl⟩ := h2
 subst hk
 obtain ⟨rfl, rfl, rfl⟩ := h3
 obtain ⟨rfl, rfl, rfl⟩ := h4
 exact ⟨rfl, rfl, rfl, rfl, rfl⟩
theorem rs_eqs {B : Bs} {n : Int} (hn : InB B n) {k : Nat} (hk : szK (remB B n) = k) {z nz ez z2 n2 e2 z3 n3 e3 n4 e4 : Int} {v : Bs} (h1 : z = nmB (1 : Nat) (remB B n) 0 ∧ nz = tkN (1 : Nat) B n 0 ∧ ez = tkE (1 : Nat) (remB B n) 0) (h2 : z2 = nmB (1 : Nat) (remB B nz) ez ∧ n2 = tkN (1 : Nat) B nz ez ∧ e2 = tkE (1 : Nat) (remB B nz) ez) (h3 : z3 = nmB k (remB B n2) e2 ∧ n3 = tkN k B n2 e2 ∧ e3 = tkE k (remB B n2) e2) (h4 : v = tkB z3 (remB B n3) e3 ∧ n4 = tkN z3 B n3 e3 ∧ e4 = tkE z3 (remB B n3) e3) :
  z = saC (remB B n) ∧ z2 = saT (remB B n) ∧ v = saV (remB B n) ∧ remB B n4 = saB (remB B n) ∧ e4 = saZ (remB B n) ∧ InB B n4 := by
 have i1 := tkN_in hn (1 : Nat) 0
 obtain ⟨a1, a2, a3⟩ := h1
 rw [← a2] at i1
 have r1 : remB B nz = tkR (1 : Nat) (remB B n) 0 := by rw [a2]; exact tkN_rem hn 1 0
 have i2 := tkN_in i1 (1 : Nat) ez
 rw [← h2.2.1] at i2
 have r2 : remB B n2 = tkR (1 : Nat) (remB B nz) ez := by rw [h2.2.1]; exact tkN_rem i1 1 ez
 have i3 := tkN_in i2 k e2
 rw [← h3.2.1] at i3
 have r3 : remB B n3 = tkR k (remB B n2) e2 := by rw [h3.2.1]; exact tkN_rem i2 k e2
 have i4 := tkN_in i3 z3 e3
 rw [← h4.2.1] at i4
 have r4 : remB B n4 = tkR z3 (remB B n3) e3 := by rw [h4.2.1]; exact tkN_rem i3 z3 e3
 obtain ⟨g1, g2, g3, g4, g5⟩ := sa_eqs hk ⟨a1, r1, a3⟩ ⟨h2.1, r2, h2.2.2⟩ ⟨h3.1, r3, h3.2.2⟩ ⟨h4.1, r4, h4.2.2⟩
 exact ⟨g1, g2, g3, g4, g5, i4⟩
theorem raInf_ex : ∃ inf : TypeInfo, Tryz.prog.info? 204 = some inf ∧ inf.size = 3 ∧ inf.bytes + 1 ≤ 1000 ∧ inf.zero = some (.agg #[.int .i64 0, .int .i64 0, .slice none 0 0]) :=
 ⟨(Tryz.prog.info? 204).getD default, by kernel_rfl, by kernel_rfl, Nat.le_of_ble_eq_true (by kernel_rfl), by kernel_rfl⟩
theorem oturn_ra {ro : Nat} {T T1 : VT} {s x : Operand} {l : List (Nat × TV)} {es es2 : List (List TV)} {k n : Nat} {bn : Bool} (hs : vadopt T 3 (evOf noGl l s) = some (es, k, n, bn, T1)) (hx : srcOf 3 (evOf noGl l x) = some es2) (hb : es.length + es2.length ≤ 2000001) :
    OTurn Tryz.prog noGl ro T (.call ⟨.builtin .append, #[s, x], #[199, 199]⟩) l (.vec 3 (es ++ es2) (.tail k (n + es2.length))) { T1 with tails := T1.tails.set k (n + es2.length, 3, bn) } := by
  obtain ⟨inf, i1, i2, i3, i4⟩ := raInf_ex
  have h := oturn_app (inf := inf) (P := Tryz.prog) (G := noGl) (ro := ro) (T := T) (T1 := T1) (t := 199) (tx := 199) (s := s) (x := x) (l := l) (es := es) (es2 := es2) (k := k) (n := n) (bn := bn) Tryz.underlying199 i1 i4 (by rw [i2]; rfl) (by rw [i2]; decide) (by kernel_rfl) (by rw [i2]; exact hs) (by rw [i2]; exact hx)
    (by have h1 := i3
        have h2 := Nat.mul_le_mul hb h1
        omega)
  rw [i2] at h
  exact h
theorem rbInf_ex : ∃ inf : TypeInfo, Tryz.prog.info? 212 = some inf ∧ inf.size = 3 ∧ inf.bytes + 1 ≤ 1000 ∧ inf.zero = some (.agg #[.int .i64 0, .int .i64 0, .slice none 0 0]) :=
 ⟨(Tryz.prog.info? 212).getD default, by kernel_rfl, by kernel_rfl, Nat.le_of_ble_eq_true (by kernel_rfl), by kernel_rfl⟩
theorem oturn_rb {ro : Nat} {T T1 : VT} {s x : Operand} {l : List (Nat × TV)} {es es2 : List (List TV)} {k n : Nat} {bn : Bool} (hs : vadopt T 3 (evOf noGl l s) = some (es, k, n, bn, T1)) (hx : srcOf 3 (evOf noGl l x) = some es2) (hb : es.length + es2.length ≤ 2000001) :
    OTurn Tryz.prog noGl ro T (.call ⟨.builtin .append, #[s, x], #[209, 209]⟩) l (.vec 3 (es ++ es2) (.tail k (n + es2.length))) { T1 with tails := T1.tails.set k (n + es2.length, 3, bn) } := by
  obtain ⟨inf, i1, i2, i3, i4⟩ := rbInf_ex
  have h := oturn_app (inf := inf) (P := Tryz.prog) (G := noGl) (ro := ro) (T := T) (T1 := T1) (t := 209) (tx := 209) (s := s) (x := x) (l := l) (es := es) (es2 := es2) (k := k) (n := n) (bn := bn) Tryz.underlying209 i1 i4 (by rw [i2]; rfl) (by rw [i2]; decide) (by kernel_rfl) (by rw [i2]; exact hs) (by rw [i2]; exact hx)
    (by have h1 := i3
        have h2 := Nat.mul_le_mul hb h1
        omega)
  rw [i2] at h
  exact h
def spPost (N : Nat) (O : Bs → Int → Int → VO) (b0 : Bs) (ex : Exit) (vs : List TV) (T : VT) : Prop :=
 (∃ (l : List Rw3) (bz : Bs) (az ez : Int), saP b0 = some l ∧ ex = .normal ∧ vs = spV (l.map saE) ∧ T = ⟨[z7, O bz az ez], [(l.length, 3, true)]⟩) ∨
 (∃ (rest : List VO) (tlz : Tl7) (Lz : Bs), saP b0 = none ∧ ex = .ret ∧ vs = spV Lz ∧ T = ⟨f7 1 :: rest, tlz⟩)
theorem spPost_ok {N : Nat} {O : Bs → Int → Int → VO} {b0 : Bs} {K : KX} (hK : spR N O (saL b0) (saO b0) K) {ex : Exit} {vs : List TV} {T : VT} (h : spPost N O b0 ex vs T) : K ex (slotsN N spK vs) T [] := by
 unfold spR at hK
 rcases h with ⟨l, bz, az, ez, h1, rfl, rfl, rfl⟩ | ⟨rest, tlz, Lz, h1, rfl, rfl, rfl⟩
 ·simp only [saO, h1, Option.isSome_some, cond_true, saL, saA, Option.getD_some, List.length_map] at hK
  exact hK bz az ez
 ·simp only [saO, h1, Option.isSome_none, cond_false] at hK
  exact hK rest tlz Lz
theorem sp_round {b0 : Bs} (h0 : IsB b0) (K : KX) (hK : spR 41 srcO (saL b0) (saO b0) K) : VWx Tryz.prog noGl none 0 (codeAt Tryz.prog spF 0) (slotsN 41 spK (spV [])) ⟨[z7, srcO b0 0 0], [(0, 3, true)]⟩ [] K := by
  let sl : Bs × Int × List Rw3 → List TV := fun s => spV (s.2.2.map saE)
  let TT : Bs × Int × List Rw3 → VT := fun s => ⟨[z7, srcO s.1 s.2.1 0], [(s.2.2.length, 3, true)]⟩
  refine loopK (f := spF) (id := 0) (by kernel_rfl) 41 spK (fun s : Bs × Int × List Rw3 => s.1.length) sl TT (fun s => IsB s.1 ∧ All3 s.2.2 ∧ s.2.2.length + s.1.length ≤ b0.length ∧ saGo (s.1.length + 1) s.1 s.2.2 = saP b0) 2 1 (fun _ _ => ⟨Nat.le_refl _, Nat.le_refl _⟩)
    (spPost 41 srcO b0) (fun s hs => ?_) ⟨b0, 0, []⟩ ⟨h0, .nil, by simp, rfl⟩ K (fun ex vs T h => spPost_ok hK h)
  obtain ⟨b, a, acc⟩ := s
  obtain ⟨hrem, ha, hlen, hgo⟩ := hs
  have hsm := h0.small
  simp only at hrem ha hlen hgo
  have hS : SpecsOk Tryz.prog noGl (specs [(wLeF, slW), (wU8F, snU .i64 1), (wU16F, snU .i64 2), (wByF, sbU), (wErF, seW)]) := specs_ok fun p hp => by
    rcases List.mem_cons.1 hp with rfl | hp; exact wLe_ok
    rcases List.mem_cons.1 hp with rfl | hp; exact fun ro ys T K h => wU8_ok _ _ _ _ (snU_le h)
    rcases List.mem_cons.1 hp with rfl | hp; exact fun ro ys T K h => wU16_ok _ _ _ _ (snU_le h)
    rcases List.mem_cons.1 hp with rfl | hp; exact fun ro ys T K h => wBy_ok _ _ _ _ (sbU_le h)
    obtain rfl := List.mem_singleton.1 hp; exact wEr_ok
  have hv := ev_spA b (acc.map saE) (saE (saC b, saT b, saV b)) a
  rw [List.length_map] at hv
  refine vx_is mixedB_Tryz bodiesB_Tryz hS lsOk_none (hv _) ?_
  refine ⟨⟨rfl, hrem⟩, ?_⟩
  by_cases hl : leB b 0 > 0
  · have hlt := saB_lt hl
    refine condT (decide_eq_true hl) ⟨⟨rfl, hrem⟩, ?_⟩
    intro z bz az ez hq1
    have hbz : IsB bz := by rw [hq1.2.1]; exact tkR_is hrem
    refine ⟨⟨rfl, hbz⟩, ?_⟩
    intro z2 b2 a2 e2 hq2
    have hb2 : IsB b2 := by rw [hq2.2.1]; exact tkR_is hbz
    have hzc : z = saC b := hq1.1
    refine cond_of (fun hx => ?_) (fun hx => ?_)
    · rw [hzc] at hx
      have hk : szK b = 2 := by unfold szK; rw [show exF (saC b) = true from hx]; rfl
      refine ⟨⟨rfl, hb2⟩, ?_⟩
      intro z3 b3 a3 e3 hq3
      have hb3 : IsB b3 := by rw [hq3.2.1]; exact tkR_is hb2
      refine ⟨⟨rfl, hb3⟩, ?_⟩
      intro v b4 a4 e4 hq4
      have hb4 : IsB b4 := by rw [hq4.2.1]; exact tkR_is hb3
      obtain ⟨rfl, rfl, rfl, rfl, rfl⟩ := sa_eqs hk hq1 hq2 hq3 hq4
      refine ⟨⟨rfl, hb4⟩, ?_⟩
      by_cases hz : saZ b = 0
      · have ha2 : All3 (acc ++ [(saC b, saT b, saV b)]) := ha.snoc (saV_is hrem)
        have e1 : (acc ++ [(saC b, saT b, saV b)]).map saE = acc.map saE ++ [saE (saC b, saT b, saV b)] := by rw [List.map_append]; rfl
        rw [hz]
        refine condF (by rw [neI]; rfl) ⟨?_, rfl, rfl, ⟨saB b, a4, acc ++ [(saC b, saT b, saV b)]⟩, ⟨hb4, ha2, by simp only [List.length_append, List.length_cons, List.length_nil]; omega, by rw [← hgo]; exact (saGo_step hl hz).symm⟩, hlt, .inr ⟨?_, ?_⟩⟩
        · have h := oturn_ra (ro := 0) (T := ⟨[z7, srcO (saB b) a4 0, .cells (saE (saC b, saT b, saV b))], [(acc.length, 3, true)]⟩) (T1 := ⟨[z7, srcO (saB b) a4 0, .cells (saE (saC b, saT b, saV b))], [(acc.length, 3, true)]⟩) (s := .tmp 35) (x := .tmp 37) (l := [(35, .vec 3 (acc.map saE) (.tail 0 acc.length)), (37, .vec 3 [saE (saC b, saT b, saV b)] .full)]) (es := acc.map saE) (es2 := [saE (saC b, saT b, saV b)]) (k := 0) (n := acc.length) (bn := true)
            (by simp [evOf, evFind, vadopt]) rfl (by simp only [List.length_map, List.length_cons, List.length_nil]; omega)
          exact h
        · refine (show VT.keep ⟨z7 :: srcO (saB b) a4 0 :: _, _⟩ 2 1 = _ from ?_)
          simp only [VT.keep, List.take_succ_cons, List.take_zero, List.map_cons, List.map_nil, srcO_ren hb4]
          simp only [TT, List.length_append, List.length_cons, List.length_nil]
          rfl
        · have e2 := renLL_sa (Go.Proofs.YtogbdjlelkepcaaGreatDoor.keep 2) (Go.Proofs.YtogbdjlelkepcaaGreatDoor.keep 1) ha2
          rw [e1] at e2
          simp only [renL, TV.ren, e2, Tok.ren]
          simp only [sl, spV, e1, List.length_append, List.length_map, List.length_cons, List.length_nil]
          rfl
      · refine condT (by rw [neI]; exact congrArg Bool.not (decide_eq_false hz)) ⟨rfl, rfl, .inr ⟨_, _, acc.map saE, by rw [← hgo]; exact saGo_bad hl hz, rfl, by simp only [spV, List.length_map], rfl⟩⟩
    · rw [hzc] at hx
      have hk : szK b = 1 := by unfold szK; rw [show exF (saC b) = false from hx]; rfl
      refine ⟨⟨rfl, hb2⟩, ?_⟩
      intro z3 b3 a3 e3 hq3
      have hb3 : IsB b3 := by rw [hq3.2.1]; exact tkR_is hb2
      refine ⟨⟨rfl, hb3⟩, ?_⟩
      intro v b4 a4 e4 hq4
      have hb4 : IsB b4 := by rw [hq4.2.1]; exact tkR_is hb3
      obtain ⟨rfl, rfl, rfl, rfl, rfl⟩ := sa_eqs hk hq1 hq2 hq3 hq4
      refine ⟨⟨rfl, hb4⟩, ?_⟩
      by_cases hz : saZ b = 0
      · have ha2 : All3 (acc ++ [(saC b, saT b, saV b)]) := ha.snoc (saV_is hrem)
        have e1 : (acc ++ [(saC b, saT b, saV b)]).map saE = acc.map saE ++ [saE (saC b, saT b, saV b)] := by rw [List.map_append]; rfl
        rw [hz]
        refine condF (by rw [neI]; rfl) ⟨?_, rfl, rfl, ⟨saB b, a4, acc ++ [(saC b, saT b, saV b)]⟩, ⟨hb4, ha2, by simp only [List.length_append, List.length_cons, List.length_nil]; omega, by rw [← hgo]; exact (saGo_step hl hz).symm⟩, hlt, .inr ⟨?_, ?_⟩⟩
        · have h := oturn_ra (ro := 0) (T := ⟨[z7, srcO (saB b) a4 0, .cells (saE (saC b, saT b, saV b))], [(acc.length, 3, true)]⟩) (T1 := ⟨[z7, srcO (saB b) a4 0, .cells (saE (saC b, saT b, saV b))], [(acc.length, 3, true)]⟩) (s := .tmp 35) (x := .tmp 37) (l := [(35, .vec 3 (acc.map saE) (.tail 0 acc.length)), (37, .vec 3 [saE (saC b, saT b, saV b)] .full)]) (es := acc.map saE) (es2 := [saE (saC b, saT b, saV b)]) (k := 0) (n := acc.length) (bn := true)
            (by simp [evOf, evFind, vadopt]) rfl (by simp only [List.length_map, List.length_cons, List.length_nil]; omega)
          exact h
        · refine (show VT.keep ⟨z7 :: srcO (saB b) a4 0 :: _, _⟩ 2 1 = _ from ?_)
          simp only [VT.keep, List.take_succ_cons, List.take_zero, List.map_cons, List.map_nil, srcO_ren hb4]
          simp only [TT, List.length_append, List.length_cons, List.length_nil]
          rfl
        · have e2 := renLL_sa (Go.Proofs.YtogbdjlelkepcaaGreatDoor.keep 2) (Go.Proofs.YtogbdjlelkepcaaGreatDoor.keep 1) ha2
          rw [e1] at e2
          simp only [renL, TV.ren, e2, Tok.ren]
          simp only [sl, spV, e1, List.length_append, List.length_map, List.length_cons, List.length_nil]
          rfl
      · refine condT (by rw [neI]; exact congrArg Bool.not (decide_eq_false hz)) ⟨rfl, rfl, .inr ⟨_, _, acc.map saE, by rw [← hgo]; exact saGo_bad hl hz, rfl, by simp only [spV, List.length_map], rfl⟩⟩
  · exact condF (decide_eq_false hl) ⟨rfl, rfl, .inl ⟨acc, b, a, 0, by rw [← hgo]; exact saGo_end hl, rfl, by simp only [spV, List.length_map], rfl⟩⟩
theorem q7S_round {B : Bs} (hB : IsB B) (K : KX) (hK : spR 43 rsO (saL B) (saO B) K) : VWx Tryz.prog noGl none 0 (codeAt Tryz.prog q7SF 0) (slotsN 43 spK (spV [])) ⟨[z7, rsO B 0 0], [(0, 3, true)]⟩ [] K := by
  let sl : Int × List Rw3 → List TV := fun s => spV (s.2.map saE)
  let TT : Int × List Rw3 → VT := fun s => ⟨[z7, rsO B s.1 0], [(s.2.length, 3, true)]⟩
  refine loopK (f := q7SF) (id := 0) (by kernel_rfl) 43 spK (fun s : Int × List Rw3 => (remB B s.1).length) sl TT (fun s => InB B s.1 ∧ All3 s.2 ∧ s.2.length + (remB B s.1).length ≤ B.length ∧ saGo ((remB B s.1).length + 1) (remB B s.1) s.2 = saP B) 2 1 (fun _ _ => ⟨Nat.le_refl _, Nat.le_refl _⟩)
    (spPost 43 rsO B) (fun s hs => ?_) ⟨0, []⟩ ⟨in0 hB, .nil, by simp [remB], rfl⟩ K (fun ex vs T h => spPost_ok hK h)
  obtain ⟨n, acc⟩ := s
  obtain ⟨hn, ha, hlen, hgo⟩ := hs
  have hsm := hB.small
  simp only at hn ha hlen hgo
  have hrem := remB_is hB n
  have hS : SpecsOk Tryz.prog noGl (specs [(rLeF, rlW), (rU8F, rnU .i64 1), (rU16F, rnU .i64 2), (rByF, rbU)]) := specs_ok fun p hp => by
    rcases List.mem_cons.1 hp with rfl | hp; exact rLe_ok
    rcases List.mem_cons.1 hp with rfl | hp; exact fun ro ys T K h => rU8_ok _ _ _ _ (rnU_le h)
    rcases List.mem_cons.1 hp with rfl | hp; exact fun ro ys T K h => rU16_ok _ _ _ _ (rnU_le h)
    obtain rfl := List.mem_singleton.1 hp; exact fun ro ys T K h => rBy_ok _ _ _ _ (rbU_le h)
  have hv := ev_q7SA B (acc.map saE) (saE (saC (remB B n), saT (remB B n), saV (remB B n))) n
  rw [List.length_map] at hv
  refine vx_is mixedB_Tryz bodiesB_Tryz hS lsOk_none (hv _) ?_
  refine ⟨⟨rfl, hB, hn⟩, ?_⟩
  by_cases hl : leB (remB B n) 0 > 0
  · have hlt := saB_lt hl
    refine condT (decide_eq_true hl) ⟨⟨rfl, hB, hn⟩, ?_⟩
    intro z nz ez hq1
    have hnz : InB B nz := by rw [hq1.2.1]; exact tkN_in hn _ _
    refine ⟨⟨rfl, hB, hnz⟩, ?_⟩
    intro z2 n2 e2 hq2
    have hn2 : InB B n2 := by rw [hq2.2.1]; exact tkN_in hnz _ _
    have hzc : z = saC (remB B n) := hq1.1
    refine cond_of (fun hx => ?_) (fun hx => ?_)
    · rw [hzc] at hx
      have hk : szK (remB B n) = 2 := by unfold szK; rw [show exF (saC (remB B n)) = true from hx]; rfl
      refine ⟨⟨rfl, hB, hn2⟩, ?_⟩
      intro z3 n3 e3 hq3
      have hn3 : InB B n3 := by rw [hq3.2.1]; exact tkN_in hn2 _ _
      refine ⟨⟨rfl, hB, hn3⟩, ?_⟩
      intro v n4 e4 hq4
      obtain ⟨rfl, rfl, rfl, hr, rfl, hn4⟩ := rs_eqs hn hk hq1 hq2 hq3 hq4
      by_cases hz : saZ (remB B n) = 0
      · have ha2 : All3 (acc ++ [(saC (remB B n), saT (remB B n), saV (remB B n))]) := ha.snoc (saV_is hrem)
        have e1 : (acc ++ [(saC (remB B n), saT (remB B n), saV (remB B n))]).map saE = acc.map saE ++ [saE (saC (remB B n), saT (remB B n), saV (remB B n))] := by rw [List.map_append]; rfl
        rw [hz]
        refine condF (by rw [neI]; rfl) ⟨?_, rfl, rfl, ⟨n4, acc ++ [(saC (remB B n), saT (remB B n), saV (remB B n))]⟩, ⟨hn4, ha2, by simp only [hr, List.length_append, List.length_cons, List.length_nil]; omega, by simp only [hr]; rw [← hgo]; exact (saGo_step hl hz).symm⟩, by simp only [hr]; exact hlt, .inr ⟨?_, ?_⟩⟩
        · have h := oturn_rb (ro := 0) (T := ⟨[z7, rsO B n4 0, .cells (saE (saC (remB B n), saT (remB B n), saV (remB B n)))], [(acc.length, 3, true)]⟩) (T1 := ⟨[z7, rsO B n4 0, .cells (saE (saC (remB B n), saT (remB B n), saV (remB B n)))], [(acc.length, 3, true)]⟩) (s := .tmp 37) (x := .tmp 39) (l := [(37, .vec 3 (acc.map saE) (.tail 0 acc.length)), (39, .vec 3 [saE (saC (remB B n), saT (remB B n), saV (remB B n))] .full)]) (es := acc.map saE) (es2 := [saE (saC (remB B n), saT (remB B n), saV (remB B n))]) (k := 0) (n := acc.length) (bn := true)
            (by simp [evOf, evFind, vadopt]) rfl (by simp only [List.length_map, List.length_cons, List.length_nil]; omega)
          exact h
        · refine (show VT.keep ⟨z7 :: rsO B n4 0 :: _, _⟩ 2 1 = _ from ?_)
          simp only [VT.keep, List.take_succ_cons, List.take_zero, List.map_cons, List.map_nil, rsO_ren hB]
          simp only [TT, List.length_append, List.length_cons, List.length_nil]
          rfl
        · have e2 := renLL_sa (Go.Proofs.YtogbdjlelkepcaaGreatDoor.keep 2) (Go.Proofs.YtogbdjlelkepcaaGreatDoor.keep 1) ha2
          rw [e1] at e2
          simp only [renL, TV.ren, e2, Tok.ren]
          simp only [sl, spV, e1, List.length_append, List.length_map, List.length_cons, List.length_nil]
          rfl
      · refine condT (by rw [neI]; exact congrArg Bool.not (decide_eq_false hz)) ⟨rfl, rfl, .inr ⟨_, _, acc.map saE, by rw [← hgo]; exact saGo_bad hl hz, rfl, by simp only [spV, List.length_map], rfl⟩⟩
    · rw [hzc] at hx
      have hk : szK (remB B n) = 1 := by unfold szK; rw [show exF (saC (remB B n)) = false from hx]; rfl
      refine ⟨⟨rfl, hB, hn2⟩, ?_⟩
      intro z3 n3 e3 hq3
      have hn3 : InB B n3 := by rw [hq3.2.1]; exact tkN_in hn2 _ _
      refine ⟨⟨rfl, hB, hn3⟩, ?_⟩
      intro v n4 e4 hq4
      obtain ⟨rfl, rfl, rfl, hr, rfl, hn4⟩ := rs_eqs hn hk hq1 hq2 hq3 hq4
      by_cases hz : saZ (remB B n) = 0
      · have ha2 : All3 (acc ++ [(saC (remB B n), saT (remB B n), saV (remB B n))]) := ha.snoc (saV_is hrem)
        have e1 : (acc ++ [(saC (remB B n), saT (remB B n), saV (remB B n))]).map saE = acc.map saE ++ [saE (saC (remB B n), saT (remB B n), saV (remB B n))] := by rw [List.map_append]; rfl
        rw [hz]
        refine condF (by rw [neI]; rfl) ⟨?_, rfl, rfl, ⟨n4, acc ++ [(saC (remB B n), saT (remB B n), saV (remB B n))]⟩, ⟨hn4, ha2, by simp only [hr, List.length_append, List.length_cons, List.length_nil]; omega, by simp only [hr]; rw [← hgo]; exact (saGo_step hl hz).symm⟩, by simp only [hr]; exact hlt, .inr ⟨?_, ?_⟩⟩
        · have h := oturn_rb (ro := 0) (T := ⟨[z7, rsO B n4 0, .cells (saE (saC (remB B n), saT (remB B n), saV (remB B n)))], [(acc.length, 3, true)]⟩) (T1 := ⟨[z7, rsO B n4 0, .cells (saE (saC (remB B n), saT (remB B n), saV (remB B n)))], [(acc.length, 3, true)]⟩) (s := .tmp 37) (x := .tmp 39) (l := [(37, .vec 3 (acc.map saE) (.tail 0 acc.length)), (39, .vec 3 [saE (saC (remB B n), saT (remB B n), saV (remB B n))] .full)]) (es := acc.map saE) (es2 := [saE (saC (remB B n), saT (remB B n), saV (remB B n))]) (k := 0) (n := acc.length) (bn := true)
            (by simp [evOf, evFind, vadopt]) rfl (by simp only [List.length_map, List.length_cons, List.length_nil]; omega)
          exact h
        · refine (show VT.keep ⟨z7 :: rsO B n4 0 :: _, _⟩ 2 1 = _ from ?_)
          simp only [VT.keep, List.take_succ_cons, List.take_zero, List.map_cons, List.map_nil, rsO_ren hB]
          simp only [TT, List.length_append, List.length_cons, List.length_nil]
          rfl
        · have e2 := renLL_sa (Go.Proofs.YtogbdjlelkepcaaGreatDoor.keep 2) (Go.Proofs.YtogbdjlelkepcaaGreatDoor.keep 1) ha2
          rw [e1] at e2
          simp only [renL, TV.ren, e2, Tok.ren]
          simp only [sl, spV, e1, List.length_append, List.length_map, List.length_cons, List.length_nil]
          rfl
      · refine condT (by rw [neI]; exact congrArg Bool.not (decide_eq_false hz)) ⟨rfl, rfl, .inr ⟨_, _, acc.map saE, by rw [← hgo]; exact saGo_bad hl hz, rfl, by simp only [spV, List.length_map], rfl⟩⟩
  · exact condF (decide_eq_false hl) ⟨rfl, rfl, .inl ⟨acc, B, n, 0, by rw [← hgo]; exact saGo_end hl, rfl, by simp only [spV, List.length_map], rfl⟩⟩
theorem sp_loop {b : Bs} (h : IsB b) : LsOk Tryz.prog noGl (spL 41 srcO b (saL b) (saO b) (codeAt Tryz.prog spF 0)) := specsL_ok fun p hp => by
 obtain rfl := List.mem_singleton.1 hp
 exact loopL_ok fun K hK => sp_round h K hK
theorem q7S_loop {b : Bs} (h : IsB b) : LsOk Tryz.prog noGl (spL 43 rsO b (saL b) (saO b) (codeAt Tryz.prog q7SF 0)) := specsL_ok fun p hp => by
 obtain rfl := List.mem_singleton.1 hp
 exact loopL_ok fun K hK => q7S_round h K hK
theorem sa_bad {b : Bs} (h : saO b = false) : TVle (.tup [.val (.slice none 0 0), .agg [.val (.int .i64 3), .val (.int .i64 1), .val (.slice none 0 0)]]) (saX b) := by
 have hl : saL b = [] := by
  unfold saL saA
  unfold saO at h
  cases hc : saP b with
  | none => rfl
  | some l => rw [hc] at h; cases h
 unfold saX
 rw [h, hl]
 exact .tup ⟨.nil 3, .agg ⟨.refl _, .refl _, .nil 1, trivial⟩, trivial⟩
theorem sa_good {b : Bs} (h : saO b = true) (tok : Tok) : TVle (.tup [.vec 3 (saL b) tok, .agg [.val (.int .i64 0), .val (.int .i64 0), .val (.slice none 0 0)]]) (saX b) := by
 unfold saX
 rw [h]
 exact .tup ⟨.vec 3 _ _, .agg ⟨.refl _, .refl _, .nil 1, trivial⟩, trivial⟩
theorem saL_ren {b : Bs} (hb : IsB b) (f g : Nat → Option Nat) : renLL f g (saL b) = saL b := renLL_sa f g (saA_is hb)
theorem sp_vcx {b : Bs} (hb : IsB b) : VCx Tryz.prog noGl 0 spF [.vec 1 b .none] ⟨[], []⟩ fun x T' => x = saX b ∧ T' = ⟨[], []⟩ := by
 refine VCx.toLe (Q := fun T' => T' = ⟨[], []⟩) (VCx.keepQ 0 0 (Nat.le_refl _) (Nat.le_refl _) (vcallF_is mixedB_Tryz bodiesB_Tryz (specs_ok fun p hp => by obtain rfl := List.mem_singleton.1 hp; exact wRdW_ok) (sp_loop hb) (ev_sp b (saL b) (saO b) _) ?_))
 refine ⟨hb, rfl, ⟨rfl, rfl, rfl, ⟨rfl, trivial⟩, rfl, rfl, rfl⟩, ?_⟩
 cases h : saO b
 ·exact fun rest tlz Lz => ⟨sa_bad h, rfl⟩
 ·refine fun bz az ez => ⟨?_, rfl⟩
  simp only [TV.ren, renL, saL_ren hb]
  exact sa_good h _
theorem q7S_vcx {b : Bs} (hb : IsB b) : VCx Tryz.prog noGl 0 q7SF [.vec 1 b .none] ⟨[], []⟩ fun x T' => x = saX b ∧ T' = ⟨[], []⟩ := by
 refine VCx.toLe (Q := fun T' => T' = ⟨[], []⟩) (VCx.keepQ 0 0 (Nat.le_refl _) (Nat.le_refl _) (vcallF_is mixedB_Tryz bodiesB_Tryz (specs_ok fun p hp => by obtain rfl := List.mem_singleton.1 hp; exact rRdW_ok) (q7S_loop hb) (ev_q7S b (saL b) (saO b) _) ?_))
 refine ⟨⟨hb, hb.small⟩, rfl, ⟨rfl, rfl, rfl, ⟨rfl, trivial⟩, rfl, rfl, rfl⟩, ?_⟩
 cases h : saO b
 ·exact fun rest tlz Lz => ⟨sa_bad h, rfl⟩
 ·refine fun bz az ez => ⟨?_, rfl⟩
  simp only [TV.ren, renL, saL_ren hb]
  exact sa_good h _
end Go.Proofs.YtogbdjlelkepcaaGreatDoor
namespace Go.Proofs.YtogbdjlelkepcaaGreatDoor
open Go.RowKit

abbrev ptF := 160
abbrev q7PF := 144
abbrev ctF := 178
abbrev ixF := 184
def iT (z : Int) : List TV := [.val (.int .i64 z)]
def iV (l : List Int) : Bs := l.map iT
def ixK : List Nat := [0, 1, 4, 6, 7, 8]
def ixV (L : Bs) (v r j : Int) : List TV := [.vec 1 L .none, .val (.int .i64 v), .val (.int .i64 r), .vec 1 L .none, .val (.int .i64 L.length), .val (.int .i64 j)]
def ixL (L : Bs) (v r j : Int) (hit : Bool) (c0 : Code) : Nat → Option (LSpec × Code) := specsL [(0, loopL 19 ixK [] (ixV L v 0 0) ⟨[], []⟩ fun K => bif hit then K .ret (slotsN 19 ixK (ixV L v r j)) ⟨[], []⟩ [] else K .normal (slotsN 19 ixK (ixV L v 0 L.length)) ⟨[], []⟩ [], c0)]
def has0 (L : Bs) : Bool := L.any fun r => decide (bval r = 0)
def ISm (L : Bs) : Prop := ∃ l : List Int, L = iV l ∧ l.length ≤ 1000
def ctW : Spec := fun _ ys T K => match ys with
 | [.vec 1 L _, .val (.int .i64 0)] => ISm L ∧ K (.val (.bool (has0 L))) T
 | _ => False
def ptK : List Nat := [2, 3, 4, 5]
def ptV (L : Bs) : List TV := [.val (.slice none 0 0), .val (.bool false), .ptr 0 0, .vec 1 L (.tail 0 L.length)]
def ptKI : List Nat := [2, 3, 4, 5, 35, 36]
def ptW (L : Bs) (n j : Int) : List TV := [.val (.slice none 0 0), .val (.bool false), .ptr 0 0, .vec 1 L (.tail 0 L.length), .val (.int .i64 n), .val (.int .i64 j)]
def ptLI (b b' L L' : Bs) (a e a' e' n : Int) (c0 : Code) : Nat → Option (LSpec × Code) := specsL [(2, loopL 55 ptKI [] (ptW L n 0) ⟨[srcO b a e], [(L.length, 1, true)]⟩ (fun K => K .normal (slotsN 55 ptKI (ptW L' n n)) ⟨[srcO b' a' e'], [(L'.length, 1, true)]⟩ []), c0)]
def ptR (P : Bs → Int → Prop) (N : Prop) (K : KX) : Prop := (∀ (L bz : Bs) (az ez : Int), (IsB bz ∧ P L ez) → K .normal (slotsN 55 ptK (ptV L)) ⟨[srcO bz az ez], [(L.length, 1, true)]⟩ []) ∧ (∀ (rest : List VO) (tlz : List (Nat × Nat × Bool)) (Lz : Bs), N → K .ret (slotsN 55 ptK (ptV Lz)) ⟨rest, tlz⟩ [])
def ptL (b : Bs) (P : Bs → Int → Prop) (N : Prop) (c0 : Code) : Nat → Option (LSpec × Code) := specsL [(0, loopL 55 ptK [(5, 1)] (ptV []) ⟨[srcO b 0 0], [(0, 1, true)]⟩ (ptR P N), c0)]
def qtKI : List Nat := [2, 3, 4, 5, 7]
def qtW (L : Bs) (n : Int) : List TV := [.val (.slice none 0 0), .val (.bool false), .ptr 0 0, .vec 1 L (.tail 0 L.length), .val (.int .i64 n)]
def qtRI (B L' : Bs) (n' : Int) (ok : Bool) (K : KX) : Prop := bif ok then K .normal (slotsN 58 qtKI (qtW L' 0)) ⟨[rsO B n' 0], [(L'.length, 1, true)]⟩ [] else ∀ (rest : List VO) (tlz : List (Nat × Nat × Bool)) (Lz : Bs) (nz : Int), K .ret (slotsN 58 qtKI (qtW Lz nz)) ⟨rest, tlz⟩ []
def qtLI (B L L' : Bs) (m n' k : Int) (ok : Bool) (c0 : Code) : Nat → Option (LSpec × Code) := specsL [(2, loopL 58 qtKI [] (qtW L k) ⟨[rsO B m 0], [(L.length, 1, true)]⟩ (qtRI B L' n' ok), c0)]
def qtR (B L : Bs) (ok : Bool) (K : KX) : Prop := bif ok then (∀ nz : Int, K .normal (slotsN 58 ptK (ptV L)) ⟨[rsO B nz 0], [(L.length, 1, true)]⟩ []) else ∀ (rest : List VO) (tlz : List (Nat × Nat × Bool)) (Lz : Bs), K .ret (slotsN 58 ptK (ptV Lz)) ⟨rest, tlz⟩ []
def qtL (B L : Bs) (ok : Bool) (c0 : Code) : Nat → Option (LSpec × Code) := specsL [(0, loopL 58 ptK [(5, 1)] (ptV []) ⟨[rsO B 0 0], [(0, 1, true)]⟩ (qtR B L ok), c0)]
theorem ev_ix (L : Bs) (v r j : Int) (hit : Bool) (Q : TV → VT → Prop) : vcallF Tryz.prog noGl noSp noOra 300 (ixL L v r j hit (codeAt Tryz.prog ixF 0)) 0 ixF [.vec 1 L .none, .val (.int .i64 v)] zz211 Q =
 ((codeAt Tryz.prog ixF (0 : Nat) = codeAt Tryz.prog ixF (0 : Nat)) ∧
 (((@Eq (Option Nat) .none .none) ∧
 ((@Eq (Nat) 0 0) ∧
 ((@Eq (List Nat) [] []) ∧
 (True  ∧
 ((@Eq (VT) zz211 zz211) ∧
 ((@Eq (Bool) true true) ∧
 (@Eq (List TV) [(zz2 L), (zz1 v), zz4, (zz2 L), (zz1 (↑(List.length L) : Int)), zz4] [(zz2 L), (zz1 v), zz4, (zz2 L), (zz1 (↑(List.length L) : Int)), zz4]))))))) ∧
 (bif hit
 then Q (zz1 r) zz211
 else Q (zz1 (-1)) zz211))) := by kernel_rfl
theorem ev_ixA (L : Bs) (v r z : Int) (j : Nat) (Q : Exit → List TV → VT → List Nat → Nat → Prop) : vx Tryz.prog noGl noSp (tellS [(999998, .dead, none), (14, .elt (iT z), none)]) 300 noLp none 0 (loopAt Tryz.prog ixF 0) (slotsN 19 ixK (ixV L v r j)) zz211 [] (pickS ixK Q) =
 (bif decide ((↑j : Int) < (↑(List.length L) : Int))
 then (OPure Tryz.prog (fun _ => .none) (.indexAddr 59 (.tmp 12) (.tmp 13)) [(12, (zz2 L)), (13, (zz1 (↑j : Int)))] (.elt [(zz1 z)]) ∧
 (bif eqRes BinOp.eql (k6 v z)
 then Q .ret (zz157 L v (↑j : Int) L (↑(List.length L) : Int) (↑j : Int)) zz211 [] 19
 else Q .normal (zz157 L v r L (↑(List.length L) : Int) (IntKind.wrap IntKind.i64 ((↑j : Int) + (1 : Int)))) zz211 [] 19))
 else Q (.exit 0) (zz157 L v r L (↑(List.length L) : Int) (↑j : Int)) zz211 [] 19) := by kernel_rfl
theorem ev_ct (L : Bs) (v r : Int) (Q : TV → VT → Prop) : vcallF Tryz.prog noGl (specs [(ixF, pureAt [.vec 1 L .none, .val (.int .i64 v)] (zz1 r))]) noOra 300 noLp 0 ctF [.vec 1 L .none, .val (.int .i64 v)] zz211 Q =
 ((@Eq (List TV) [(zz2 L), (zz1 v)] [(zz2 L), (zz1 v)]) ∧
 Q (zz9 (decide (r ≥ (0 : Int)))) zz211) := by kernel_rfl
theorem ev_ptI (b L : Bs) (a e n : Int) (j : Nat) (Q : Exit → List TV → VT → List Nat → Nat → Prop) : vx Tryz.prog noGl (specs [(wU16F, snW .i64 2)]) (tellS [(999999, .dead, none), (42, .vec 1 (L ++ [iT (nmB 2 b e)]) (.tail 0 (L.length + 1)), some fun T => { T with tails := [(L.length + 1, 1, true)] })]) 300 noLp none 0 (loopAt Tryz.prog ptF 2) (slotsN 55 ptKI (ptW L n j)) ⟨[srcO b a e], [(L.length, 1, true)]⟩ [] (pickS ptKI Q) =
 (bif decide ((↑j : Int) < n)
 then (((@Eq (Bool) true true) ∧
 IsB (b)) ∧
 (OTurn Tryz.prog (fun _ => .none) 0 ⟨[(.cells [zz133, (zz2 (tkR (↑(2 : Nat) : Int) b e)), (zz1 (tkA (↑(2 : Nat) : Int) b e a)), (zz1 (tkE (↑(2 : Nat) : Int) b e))])], [((List.length L), (1, true))]⟩ (.call ⟨(.builtin .append), #[(.tmp 38), (.tmp 41)], #[59, 59]⟩) [(38, (zz152 L (List.length L))), (41, (zz66 [[(.val (.int .i64 (nmB (2 : Nat) b e)))]]))] (zz152 (L ++ [iT (nmB (2 : Nat) b e)]) (List.length L + (1 : Nat))) ⟨[(.cells [zz133, (zz2 (tkR (↑(2 : Nat) : Int) b e)), (zz1 (tkA (↑(2 : Nat) : Int) b e a)), (zz1 (tkE (↑(2 : Nat) : Int) b e))])], [((List.length L + (1 : Nat)), (1, true))]⟩ ∧
 Q .normal [zz18, zz20, zz30, (zz152 (L ++ [iT (nmB (2 : Nat) b e)]) (List.length L + (1 : Nat))), (zz1 n), (zz1 (IntKind.wrap IntKind.i64 ((↑j : Int) + (1 : Int))))] ⟨[(.cells [zz133, (zz2 (tkR (↑(2 : Nat) : Int) b e)), (zz1 (tkA (↑(2 : Nat) : Int) b e a)), (zz1 (tkE (↑(2 : Nat) : Int) b e))])], [((List.length L + (1 : Nat)), (1, true))]⟩ [] 55))
 else Q (.exit 2) [zz18, zz20, zz30, (zz152 L (List.length L)), (zz1 n), (zz1 (↑j : Int))] ⟨[(.cells [zz133, (zz2 b), (zz1 a), (zz1 e)])], [((List.length L), (1, true))]⟩ [] 55) := by kernel_rfl
abbrev zzy18 (b : Bs) (e : Int) (a : Int) : TV := (zz1 (tkA (↑(1 : Nat) : Int) (tkR (↑(1 : Nat) : Int) b e) (tkE (↑(1 : Nat) : Int) b e) (tkA (↑(1 : Nat) : Int) b e a)))
abbrev zzy19 (b : Bs) (e : Int) : TV := (zz2 (tkR (↑(1 : Nat) : Int) (tkR (↑(1 : Nat) : Int) b e) (tkE (↑(1 : Nat) : Int) b e)))
abbrev zzy20 (b : Bs) (e : Int) : TV := (zz1 (tkE (↑(1 : Nat) : Int) (tkR (↑(1 : Nat) : Int) b e) (tkE (↑(1 : Nat) : Int) b e)))
abbrev zzy21 (L : Bs) (b : Bs) (e : Int) : List TV := (zz155 L (List.length L) (nmB (1 : Nat) (tkR (↑(1 : Nat) : Int) b e) (tkE (↑(1 : Nat) : Int) b e)))
theorem ev_ptA (b b2 b' L L' : Bs) (a e a2 e2 a' e' n : Int) (Q : Exit → List TV → VT → List Nat → Nat → Prop) : vx Tryz.prog noGl (specs [(wLeF, slW), (wU8F, snW .i64 1)]) (tellS [(999999, .dead, none)]) 300 (ptLI b2 b' L L' a2 e2 a' e' n (codeAt Tryz.prog ptF 2)) none 0 (loopAt Tryz.prog ptF 0) (slotsN 55 ptK (ptV L)) ⟨[srcO b a e], [(L.length, 1, true)]⟩ [] (pickS ptK Q) =
 (((@Eq (Bool) true true) ∧
 IsB (b)) ∧
 (bif decide (leB b e > (0 : Int))
 then (((@Eq (Bool) true true) ∧
 IsB (b)) ∧
 (((@Eq (Bool) true true) ∧
 IsB (tkR (↑(1 : Nat) : Int) b e)) ∧
 (bif eqRes BinOp.neq (k6 (nmB (1 : Nat) b e) (1 : Int))
 then (bif eqRes BinOp.neq (k6 (nmB (1 : Nat) b e) (2 : Int))
 then Q .ret (zz156 L (List.length L)) ⟨[(.cells [zz133, (zzy19 b e), (zzy18 b e a), (zzy20 b e)])], [((List.length L), (1, true))]⟩ [] 55
 else (bif eqRes BinOp.eql (k6 (nmB (1 : Nat) (tkR (↑(1 : Nat) : Int) b e) (tkE (↑(1 : Nat) : Int) b e)) (0 : Int))
 then Q .ret (zz156 L (List.length L)) ⟨[(.cells [zz133, (zzy19 b e), (zzy18 b e a), (zzy20 b e)])], [((List.length L), (1, true))]⟩ [] 55
 else (bif decide (IntKind.wrap IntKind.i64 ((↑(List.length L) : Int) + nmB (1 : Nat) (tkR (↑(1 : Nat) : Int) b e) (tkE (↑(1 : Nat) : Int) b e)) > (16 : Int))
 then Q .ret (zz156 L (List.length L)) ⟨[(.cells [zz133, (zzy19 b e), (zzy18 b e a), (zzy20 b e)])], [((List.length L), (1, true))]⟩ [] 55
 else ((codeAt Tryz.prog ptF (2 : Nat) = codeAt Tryz.prog ptF (2 : Nat)) ∧
 (((@Eq (Option Nat) .none .none) ∧
 ((@Eq (Nat) 0 0) ∧
 ((@Eq (List Nat) [] []) ∧
 (True  ∧
 ((@Eq (VT) ⟨[(.cells [zz133, (zzy19 b e), (zzy18 b e a), (zzy20 b e)])], [((List.length L), (1, true))]⟩ ⟨[(.cells [zz133, (zz2 b2), (zz1 a2), (zz1 e2)])], [((List.length L), (1, true))]⟩) ∧
 ((@Eq (Bool) true true) ∧
 (@Eq (List TV) (zzy21 L b e) (zz155 L (List.length L) n)))))))) ∧
 Q .normal (zz156 L' (List.length L')) ⟨[(.cells [zz133, (zz2 b'), (zz1 a'), (zz1 e')])], [((List.length L'), (1, true))]⟩ [] 55)))))
 else (bif eqRes BinOp.eql (k6 (nmB (1 : Nat) (tkR (↑(1 : Nat) : Int) b e) (tkE (↑(1 : Nat) : Int) b e)) (0 : Int))
 then Q .ret (zz156 L (List.length L)) ⟨[(.cells [zz133, (zzy19 b e), (zzy18 b e a), (zzy20 b e)])], [((List.length L), (1, true))]⟩ [] 55
 else (bif decide (IntKind.wrap IntKind.i64 ((↑(List.length L) : Int) + nmB (1 : Nat) (tkR (↑(1 : Nat) : Int) b e) (tkE (↑(1 : Nat) : Int) b e)) > (16 : Int))
 then Q .ret (zz156 L (List.length L)) ⟨[(.cells [zz133, (zzy19 b e), (zzy18 b e a), (zzy20 b e)])], [((List.length L), (1, true))]⟩ [] 55
 else ((codeAt Tryz.prog ptF (2 : Nat) = codeAt Tryz.prog ptF (2 : Nat)) ∧
 (((@Eq (Option Nat) .none .none) ∧
 ((@Eq (Nat) 0 0) ∧
 ((@Eq (List Nat) [] []) ∧
 (True  ∧
 ((@Eq (VT) ⟨[(.cells [zz133, (zzy19 b e), (zzy18 b e a), (zzy20 b e)])], [((List.length L), (1, true))]⟩ ⟨[(.cells [zz133, (zz2 b2), (zz1 a2), (zz1 e2)])], [((List.length L), (1, true))]⟩) ∧
 ((@Eq (Bool) true true) ∧
 (@Eq (List TV) (zzy21 L b e) (zz155 L (List.length L) n)))))))) ∧
 Q .normal (zz156 L' (List.length L')) ⟨[(.cells [zz133, (zz2 b'), (zz1 a'), (zz1 e')])], [((List.length L'), (1, true))]⟩ [] 55)))))))
 else Q (.exit 0) (zz156 L (List.length L)) ⟨[(.cells [zz133, (zz2 b), (zz1 a), (zz1 e)])], [((List.length L), (1, true))]⟩ [] 55)) := by kernel_rfl
theorem ev_pt (b : Bs) (P : Bs → Int → Prop) (N : Prop) (Q : TV → VT → Prop) : vcallF Tryz.prog noGl (specs [(wRdF, sreadW), (wErF, seW), (ctF, ctW)]) (tellS [(999999, .dead, none)]) 300 (ptL b P N (codeAt Tryz.prog ptF 0)) 0 ptF [.vec 1 b .none] zz211 Q =
 (IsB (b) ∧
 ((codeAt Tryz.prog ptF (0 : Nat) = codeAt Tryz.prog ptF (0 : Nat)) ∧
 (((@Eq (Option Nat) .none .none) ∧
 ((@Eq (Nat) 0 0) ∧
 ((@Eq (List Nat) [] []) ∧
 (((@Eq (Option TV) (.some zz18) (.some zz18)) ∧
 True ) ∧
 ((@Eq (VT) ⟨[(.cells [zz133, (zz2 b), zz4, zz4])], [(0, (1, true))]⟩ ⟨[(.cells [zz133, (zz2 b), zz4, zz4])], [(0, (1, true))]⟩) ∧
 ((@Eq (Bool) true true) ∧
 (@Eq (List TV) zz154 zz154))))))) ∧
 ((∀ L : Bs, (∀ bz : Bs, (∀ az : Int, (∀ ez : Int, ((IsB (bz) ∧
 P (L) (ez)) → (((@Eq (Bool) true true) ∧
 IsB (bz)) ∧
 (bif eqRes BinOp.eql (k6 ez (0 : Int))
 then (ISm (L) ∧
 (bif !!has0 L
 then Q zz193 ⟨[(.cells [zz133, (zz2 bz), (zz1 az), (zz1 ez)])], [((List.length L), (1, true))]⟩
 else Q (.tup [(zz152 L (List.length L)), zz133]) ⟨[(.cells [zz133, (zz2 bz), (zz1 az), (zz1 ez)])], [((List.length L), (1, true))]⟩))
 else Q zz193 ⟨[(.cells [zz133, (zz2 bz), (zz1 az), (zz1 ez)])], [((List.length L), (1, true))]⟩))))))) ∧
 (∀ rest : List VO, (∀ tlz : List (Nat × Nat × Bool), (∀ Lz : Bs, (N  → Q zz193 ⟨(rest), (tlz)⟩)))))))) := by kernel_rfl
abbrev zzy22 (B : Bs) (m : Int) : TV := (zz1 (tkE (↑(2 : Nat) : Int) (remB B m) (0 : Int)))
abbrev zzy23 (B : Bs) (m : Int) : TV := (zz1 (tkN (↑(2 : Nat) : Int) B m (0 : Int)))
theorem ev_qtI (B L : Bs) (m k : Int) (Q : Exit → List TV → VT → List Nat → Nat → Prop) : vx Tryz.prog noGl (specs [(rU16F, rnW .i64 2)]) (tellS [(999999, .dead, none), (51, .vec 1 (L ++ [iT (nmB 2 (remB B m) 0)]) (.tail 0 (L.length + 1)), some fun T => { T with tails := [(L.length + 1, 1, true)] })]) 300 noLp none 0 (loopAt Tryz.prog q7PF 2) (slotsN 58 qtKI (qtW L k)) ⟨[rsO B m 0], [(L.length, 1, true)]⟩ [] (pickS qtKI Q) =
 (bif decide (k > (0 : Int))
 then (((@Eq (Bool) true true) ∧
 (IsB (B) ∧
 InB (B) (m))) ∧
 (bif eqRes BinOp.neq (k6 (tkE (↑(2 : Nat) : Int) (remB B m) (0 : Int)) (0 : Int))
 then Q .ret (zz153 L (List.length L) k) ⟨[(.cells [(zz2 B), (zzy23 B m), (zzy22 B m)])], [((List.length L), (1, true))]⟩ [] 58
 else (bif eqRes BinOp.eql (k6 (nmB (2 : Nat) (remB B m) (0 : Int)) (0 : Int))
 then Q .ret (zz153 L (List.length L) k) ⟨[(.cells [(zz2 B), (zzy23 B m), (zzy22 B m)])], [((List.length L), (1, true))]⟩ [] 58
 else (bif eqRes BinOp.eql (k6 (↑(List.length L) : Int) (16 : Int))
 then Q .ret (zz153 L (List.length L) k) ⟨[(.cells [(zz2 B), (zzy23 B m), (zzy22 B m)])], [((List.length L), (1, true))]⟩ [] 58
 else (OTurn Tryz.prog (fun _ => .none) 0 ⟨[(.cells [(zz2 B), (zzy23 B m), (zzy22 B m)])], [((List.length L), (1, true))]⟩ (.call ⟨(.builtin .append), #[(.tmp 48), (.tmp 50)], #[59, 59]⟩) [(48, (zz152 L (List.length L))), (50, (zz66 [[(.val (.int .i64 (nmB (2 : Nat) (remB B m) (0 : Int))))]]))] (zz152 (L ++ [iT (nmB (2 : Nat) (remB B m) (0 : Int))]) (List.length L + (1 : Nat))) ⟨[(.cells [(zz2 B), (zzy23 B m), (zzy22 B m)])], [((List.length L + (1 : Nat)), (1, true))]⟩ ∧
 Q .normal (zz153 (L ++ [iT (nmB (2 : Nat) (remB B m) (0 : Int))]) (List.length L + (1 : Nat)) (IntKind.wrap IntKind.i64 (k - (1 : Int)))) ⟨[(.cells [(zz2 B), (zzy23 B m), (zzy22 B m)])], [((List.length L + (1 : Nat)), (1, true))]⟩ [] 58)))))
 else Q (.exit 2) (zz153 L (List.length L) k) ⟨[(.cells [(zz2 B), (zz1 m), zz4])], [((List.length L), (1, true))]⟩ [] 58) := by kernel_rfl
abbrev zzy24 (B : Bs) (m : Int) : TV := (zz1 (tkE (↑(1 : Nat) : Int) (remB B (tkN (↑(1 : Nat) : Int) B m (0 : Int))) (tkE (↑(1 : Nat) : Int) (remB B m) (0 : Int))))
abbrev zzy25 (B : Bs) (m : Int) : TV := (zz1 (tkN (↑(1 : Nat) : Int) B (tkN (↑(1 : Nat) : Int) B m (0 : Int)) (tkE (↑(1 : Nat) : Int) (remB B m) (0 : Int))))
theorem ev_qtA (B L L' : Bs) (m m2 n' k : Int) (ok : Bool) (Q : Exit → List TV → VT → List Nat → Nat → Prop) : vx Tryz.prog noGl (specs [(rLeF, rlW), (rU8F, rnW .i64 1)]) (tellS [(999999, .dead, none)]) 300 (qtLI B L L' m2 n' k ok (codeAt Tryz.prog q7PF 2)) none 0 (loopAt Tryz.prog q7PF 0) (slotsN 58 ptK (ptV L)) ⟨[rsO B m 0], [(L.length, 1, true)]⟩ [] (pickS ptK Q) =
 (((@Eq (Bool) true true) ∧
 (IsB (B) ∧
 InB (B) (m))) ∧
 (bif decide (leB (remB B m) (0 : Int) > (0 : Int))
 then (((@Eq (Bool) true true) ∧
 (IsB (B) ∧
 InB (B) (m))) ∧
 (((@Eq (Bool) true true) ∧
 (IsB (B) ∧
 InB (B) (tkN (↑(1 : Nat) : Int) B m (0 : Int)))) ∧
 (bif decide (nmB (1 : Nat) (remB B m) (0 : Int) < (1 : Int))
 then Q .ret (zz156 L (List.length L)) ⟨[(.cells [(zz2 B), (zzy25 B m), (zzy24 B m)])], [((List.length L), (1, true))]⟩ [] 58
 else (bif decide (nmB (1 : Nat) (remB B m) (0 : Int) > (2 : Int))
 then Q .ret (zz156 L (List.length L)) ⟨[(.cells [(zz2 B), (zzy25 B m), (zzy24 B m)])], [((List.length L), (1, true))]⟩ [] 58
 else (bif eqRes BinOp.eql (k6 (nmB (1 : Nat) (remB B (tkN (↑(1 : Nat) : Int) B m (0 : Int))) (tkE (↑(1 : Nat) : Int) (remB B m) (0 : Int))) (0 : Int))
 then Q .ret (zz156 L (List.length L)) ⟨[(.cells [(zz2 B), (zzy25 B m), (zzy24 B m)])], [((List.length L), (1, true))]⟩ [] 58
 else ((codeAt Tryz.prog q7PF (2 : Nat) = codeAt Tryz.prog q7PF (2 : Nat)) ∧
 (((@Eq (Option Nat) .none .none) ∧
 ((@Eq (Nat) 0 0) ∧
 ((@Eq (List Nat) [] []) ∧
 (True  ∧
 ((@Eq (VT) ⟨[(.cells [(zz2 B), (zzy25 B m), (zzy24 B m)])], [((List.length L), (1, true))]⟩ ⟨[(.cells [(zz2 B), (zz1 m2), zz4])], [((List.length L), (1, true))]⟩) ∧
 ((@Eq (Bool) true true) ∧
 (@Eq (List TV) (zz153 L (List.length L) (nmB (1 : Nat) (remB B (tkN (↑(1 : Nat) : Int) B m (0 : Int))) (tkE (↑(1 : Nat) : Int) (remB B m) (0 : Int)))) (zz153 L (List.length L) k)))))))) ∧
 (bif ok
 then Q .normal (zz156 L' (List.length L')) ⟨[(.cells [(zz2 B), (zz1 n'), zz4])], [((List.length L'), (1, true))]⟩ [] 58
 else (∀ rest : List VO, (∀ tlz : List (Nat × Nat × Bool), (∀ Lz : Bs, (∀ nz : Int, Q .ret (zz156 Lz (List.length Lz)) ⟨(rest), (tlz)⟩ [] 58))))))))))))
 else Q (.exit 0) (zz156 L (List.length L)) ⟨[(.cells [(zz2 B), (zz1 m), zz4])], [((List.length L), (1, true))]⟩ [] 58)) := by kernel_rfl
theorem ev_qt (B L : Bs) (ok : Bool) (Q : TV → VT → Prop) : vcallF Tryz.prog noGl (specs [(rRdF, rreadW)]) (tellS [(999999, .dead, none)]) 300 (qtL B L ok (codeAt Tryz.prog q7PF 0)) 0 q7PF [.vec 1 B .none] zz211 Q =
 ((IsB (B) ∧
 SmB (B)) ∧
 ((codeAt Tryz.prog q7PF (0 : Nat) = codeAt Tryz.prog q7PF (0 : Nat)) ∧
 (((@Eq (Option Nat) .none .none) ∧
 ((@Eq (Nat) 0 0) ∧
 ((@Eq (List Nat) [] []) ∧
 (((@Eq (Option TV) (.some zz18) (.some zz18)) ∧
 True ) ∧
 ((@Eq (VT) ⟨[(.cells [(zz2 B), zz4, zz4])], [(0, (1, true))]⟩ ⟨[(.cells [(zz2 B), zz4, zz4])], [(0, (1, true))]⟩) ∧
 ((@Eq (Bool) true true) ∧
 (@Eq (List TV) zz154 zz154))))))) ∧
 (bif ok
 then (∀ nz : Int, Q (.tup [(zz152 L (List.length L)), zz133]) ⟨[(.cells [(zz2 B), (zz1 nz), zz4])], [((List.length L), (1, true))]⟩)
 else (∀ rest : List VO, (∀ tlz : List (Nat × Nat × Bool), (∀ Lz : Bs, Q zz193 ⟨(rest), (tlz)⟩))))))) := by kernel_rfl
end Go.Proofs.YtogbdjlelkepcaaGreatDoor
namespace Go.Proofs.YtogbdjlelkepcaaGreatDoor
open Go.RowKit

def ptI : Nat → Bs → List Int → Option (Bs × List Int)
 | 0, b, l => some (b, l)
 | k + 1, b, l => bif decide (tkE 2 b 0 = 0) && (!decide (nmB 2 b 0 = 0) && !decide (l.length = 16)) then ptI k (tkR 2 b 0) (l ++ [nmB 2 b 0]) else none
def ptC (b : Bs) : Int := nmB 1 b 0
def ptN (b : Bs) : Int := nmB 1 (tkR 1 b 0) (tkE 1 b 0)
def ptB (b : Bs) : Bs := tkR 1 (tkR 1 b 0) (tkE 1 b 0)
def ptE (b : Bs) : Int := tkE 1 (tkR 1 b 0) (tkE 1 b 0)
def ptH (b : Bs) : Bool := (decide (ptC b = 1) || decide (ptC b = 2)) && !decide (ptN b = 0)
def ptGo : Nat → Bs → List Int → Option (List Int)
 | 0, _, _ => none
 | k + 1, b, l => bif decide (leB b 0 > 0) then (bif ptH b then (match ptI (ptN b).toNat (ptB b) l with
  | some (b', l') => ptGo k b' l'
  | none => none) else none) else some l
def ptP (b : Bs) : Option (List Int) := ptGo (b.length + 1) b []
def ptO (b : Bs) : Bool := (ptP b).isSome
def ptA (b : Bs) : List Int := (ptP b).getD []
def ptX (b : Bs) : TV := .tup [.vec 1 (iV (ptA b)) .none, .val (.bool (ptO b))]
theorem iV_len (l : List Int) : (iV l).length = l.length := List.length_map _
theorem iV_app (l : List Int) (z : Int) : iV (l ++ [z]) = iV l ++ [iT z] := by simp [iV]
theorem iV_ren (f g : Nat → Option Nat) : ∀ l : List Int, renLL f g (iV l) = iV l
 | [] => rfl
 | a :: l => by
  have h := iV_ren f g l
  simp only [iV, List.map_cons, renLL] at h ⊢
  rw [h]; rfl
theorem nmB_ne {k : Nat} {b : Bs} {e : Int} (h : ¬ nmB k b e = 0) : tkE k b e = 0 := by
 unfold nmB at h
 cases hc : tkOk k b e
 ·rw [hc] at h; exact absurd rfl h
 ·simp only [tkOk, Bool.and_eq_true, decide_eq_true_eq] at hc
  unfold tkE
  rw [decide_eq_true hc.1.1, decide_eq_false (show ¬ ((k : Nat) : Int) < 0 by omega), decide_eq_true hc.2]; rfl
theorem ptB_lt {b : Bs} (h : leB b 0 > 0) : (ptB b).length < b.length := by
 have h1 := tk1_len h
 have h2 := tkR_le (n := 1) (b := tkR 1 b 0) (e := tkE 1 b 0)
 unfold ptB
 omega
theorem ptB_is {b : Bs} (h : IsB b) : IsB (ptB b) := tkR_is (tkR_is h)
theorem ptI_len : ∀ (k : Nat) (b : Bs) (l : List Int) (b' : Bs) (l' : List Int), ptI k b l = some (b', l') → b'.length ≤ b.length ∧ l'.length = l.length + k
 | 0, b, l, b', l', h => by
  simp only [ptI, Option.some.injEq, Prod.mk.injEq] at h
  obtain ⟨rfl, rfl⟩ := h
  exact ⟨Nat.le_refl _, rfl⟩
 | k + 1, b, l, b', l', h => by
  unfold ptI at h
  cases hc : (decide (tkE 2 b 0 = 0) && (!decide (nmB 2 b 0 = 0) && !decide (l.length = 16))) <;> rw [hc] at h
  ·cases h
  ·obtain ⟨h1, h2⟩ := ptI_len k _ _ _ _ h
   have h3 := tkR_le (n := 2) (b := b) (e := 0)
   refine ⟨Nat.le_trans h1 h3, ?_⟩
   rw [h2, List.length_append, List.length_cons, List.length_nil]; omega
theorem ptI_16 : ∀ (k : Nat) (b : Bs) (l : List Int) (b' : Bs) (l' : List Int), l.length ≤ 16 → ptI k b l = some (b', l') → l'.length ≤ 16
 | 0, b, l, b', l', h0, h => by
  simp only [ptI, Option.some.injEq, Prod.mk.injEq] at h
  rw [← h.2]; exact h0
 | k + 1, b, l, b', l', h0, h => by
  unfold ptI at h
  cases hc : (decide (tkE 2 b 0 = 0) && (!decide (nmB 2 b 0 = 0) && !decide (l.length = 16))) <;> rw [hc] at h
  ·cases h
  ·simp only [Bool.and_eq_true, Bool.not_eq_true', decide_eq_false_iff_not] at hc
   exact ptI_16 k _ _ _ _ (by rw [List.length_append, List.length_cons, List.length_nil]; omega) h
theorem ptI_over {k : Nat} {b : Bs} {l : List Int} (h0 : l.length ≤ 16) (h : l.length + k > 16) : ptI k b l = none := by
 cases hc : ptI k b l with
 | none => rfl
 | some p =>
  obtain ⟨b', l'⟩ := p
  have h1 := (ptI_len k b l b' l' hc).2
  have h2 := ptI_16 k b l b' l' h0 hc
  omega
theorem ptGo_fuel : ∀ (k j : Nat) (b : Bs) (l : List Int), b.length < k → b.length < j → ptGo k b l = ptGo j b l
 | 0, _, _, _, h, _ => absurd h (Nat.not_lt_zero _)
 | _, 0, _, _, _, h => absurd h (Nat.not_lt_zero _)
 | k + 1, j + 1, b, l, h1, h2 => by
  unfold ptGo
  by_cases hl : leB b 0 > 0
  ·have hb := ptB_lt hl
   rw [decide_eq_true hl]
   cases hi : ptI (ptN b).toNat (ptB b) l with
   | none => rfl
   | some p =>
    obtain ⟨b', l'⟩ := p
    have h3 := (ptI_len _ _ _ _ _ hi).1
    simp only [ptGo_fuel k j b' l' (by omega) (by omega)]
  ·rw [decide_eq_false hl]; rfl
theorem ptGo_bad {b : Bs} {l : List Int} (hl : leB b 0 > 0) (hh : ptH b = false) : ptGo (b.length + 1) b l = none := by
 simp only [ptGo, decide_eq_true hl, hh, cond_true, cond_false]
theorem ptGo_none {b : Bs} {l : List Int} (hl : leB b 0 > 0) (hi : ptI (ptN b).toNat (ptB b) l = none) : ptGo (b.length + 1) b l = none := by
 simp only [ptGo, decide_eq_true hl, hi, cond_true]
 cases ptH b <;> rfl
theorem ptGo_some {b b' : Bs} {l l' : List Int} (hl : leB b 0 > 0) (hh : ptH b = true) (hi : ptI (ptN b).toNat (ptB b) l = some (b', l')) : ptGo (b.length + 1) b l = ptGo (b'.length + 1) b' l' := by
 have h1 := ptB_lt hl
 have h2 := (ptI_len _ _ _ _ _ hi).1
 rw [ptGo_fuel (b'.length + 1) b.length b' l' (by omega) (by omega)]
 simp only [ptGo, decide_eq_true hl, hh, hi, cond_true]
theorem ptGo_end {b : Bs} {l : List Int} (hl : ¬ leB b 0 > 0) : ptGo (b.length + 1) b l = some l := by
 simp only [ptGo, decide_eq_false hl, cond_false]
def prS : Nat → Bs × Int × Int × List Int → Bs × Int × Int × List Int
 | 0, s => s
 | k + 1, (b, a, e, l) => prS k (tkR 2 b e, tkA 2 b e a, tkE 2 b e, l ++ [nmB 2 b e])
theorem prS_is : ∀ (k : Nat) (s : Bs × Int × Int × List Int), IsB s.1 → IsB (prS k s).1 ∧ (prS k s).1.length ≤ s.1.length ∧ (prS k s).2.2.2.length = s.2.2.2.length + k
 | 0, s, h => ⟨h, Nat.le_refl _, rfl⟩
 | k + 1, (b, a, e, l), h => by
  obtain ⟨h1, h2, h3⟩ := prS_is k (tkR 2 b e, tkA 2 b e a, tkE 2 b e, l ++ [nmB 2 b e]) (tkR_is h)
  have h4 := tkR_le (n := 2) (b := b) (e := e)
  simp only [List.length_append, List.length_cons, List.length_nil] at h2 h3
  refine ⟨h1, ?_, ?_⟩
  ·simp only [prS]; omega
  ·simp only [prS]; omega
theorem tkE_st {n : Int} {b : Bs} {e : Int} (h : ¬ e = 0) : tkE n b e = e := by unfold tkE; rw [decide_eq_false h]; rfl
theorem prS_err : ∀ (k : Nat) (s : Bs × Int × Int × List Int), ¬ s.2.2.1 = 0 → ¬ (prS k s).2.2.1 = 0
 | 0, _, h => h
 | k + 1, (b, a, e, l), h => by
  simp only [prS]
  exact prS_err k _ (by simp only; rw [tkE_st h]; exact h)
theorem prS_nought : ∀ (k : Nat) (s : Bs × Int × Int × List Int), 0 ∈ s.2.2.2 → 0 ∈ (prS k s).2.2.2
 | 0, _, h => h
 | k + 1, (b, a, e, l), h => by
  simp only [prS]
  exact prS_nought k _ (List.mem_append_left _ h)
theorem prS_ok : ∀ (k : Nat) (b : Bs) (a : Int) (l : List Int), l.length + k ≤ 16 → (∃ b' l', ptI k b l = some (b', l') ∧ (prS k (b, a, 0, l)).1 = b' ∧ (prS k (b, a, 0, l)).2.2.1 = 0 ∧ (prS k (b, a, 0, l)).2.2.2 = l' ∧ (¬ 0 ∈ l → ¬ 0 ∈ l')) ∨
    (ptI k b l = none ∧ (¬ (prS k (b, a, 0, l)).2.2.1 = 0 ∨ 0 ∈ (prS k (b, a, 0, l)).2.2.2))
  | 0, b, a, l, _ => .inl ⟨b, l, rfl, rfl, rfl, rfl, fun h => h⟩
  | k + 1, b, a, l, h => by
    have h16 : ¬ l.length = 16 := by omega
    by_cases he : tkE 2 b 0 = 0
    · by_cases hz : nmB 2 b 0 = 0
      · refine .inr ⟨by simp only [ptI, decide_eq_true he, decide_eq_true hz, Bool.not_true, Bool.false_and, Bool.and_false, cond_false], .inr ?_⟩
        simp only [prS]
        refine prS_nought k _ (List.mem_append_right _ ?_)
        rw [show nmB 2 b 0 = 0 from hz]; exact List.mem_cons_self
      · have e1 : ptI (k + 1) b l = ptI k (tkR 2 b 0) (l ++ [nmB 2 b 0]) := by
          simp only [ptI, decide_eq_true he, decide_eq_false hz, decide_eq_false h16, Bool.not_false, Bool.and_self, cond_true]
        have e2 : prS (k + 1) (b, a, 0, l) = prS k (tkR 2 b 0, tkA 2 b 0 a, 0, l ++ [nmB 2 b 0]) := by
          show prS k (tkR (2 : Int) b 0, tkA 2 b 0 a, tkE 2 b 0, l ++ [nmB 2 b 0]) = _
          rw [he]
        rw [e1, e2]
        rcases prS_ok k (tkR 2 b 0) (tkA 2 b 0 a) (l ++ [nmB 2 b 0]) (by rw [List.length_append, List.length_cons, List.length_nil]; omega) with ⟨b', l', g1, g2, g3, g4, g5⟩ | g
        · refine .inl ⟨b', l', g1, g2, g3, g4, fun hn => g5 fun hm => ?_⟩
          rcases List.mem_append.1 hm with hm | hm
          · exact hn hm
          · exact hz (List.mem_singleton.1 hm).symm
        · exact .inr g
    · refine .inr ⟨by simp only [ptI, decide_eq_false he, Bool.false_and, cond_false], .inl ?_⟩
      simp only [prS]
      exact prS_err k _ he
theorem has0_is (l : List Int) : has0 (iV l) = decide (0 ∈ l) := by
 induction l with
 | nil => rfl
 | cons a l ih =>
  have e : has0 (iV (a :: l)) = (decide (a = 0) || has0 (iV l)) := rfl
  rw [e, ih]
  by_cases ha : a = 0
  ·subst ha; simp
  ·have : ¬ (0 : Int) = a := fun h => ha h.symm
   simp [ha, this]
theorem inInf_ex : ∃ inf : TypeInfo, Tryz.prog.info? 3 = some inf ∧ inf.size = 1 ∧ inf.bytes + 1 ≤ 1000 ∧ inf.zero = some (.int .i64 0) :=
 ⟨(Tryz.prog.info? 3).getD default, by kernel_rfl, by kernel_rfl, Nat.le_of_ble_eq_true (by kernel_rfl), by kernel_rfl⟩
theorem oturn_in {ro : Nat} {T T1 : VT} {s x : Operand} {l : List (Nat × TV)} {es es2 : List (List TV)} {k n : Nat} {bn : Bool} (hs : vadopt T 1 (evOf noGl l s) = some (es, k, n, bn, T1)) (hx : srcOf 1 (evOf noGl l x) = some es2) (hb : es.length + es2.length ≤ 2000001) :
    OTurn Tryz.prog noGl ro T (.call ⟨.builtin .append, #[s, x], #[59, 59]⟩) l (.vec 1 (es ++ es2) (.tail k (n + es2.length))) { T1 with tails := T1.tails.set k (n + es2.length, 1, bn) } := by
  obtain ⟨inf, i1, i2, i3, i4⟩ := inInf_ex
  have h := oturn_app (inf := inf) (P := Tryz.prog) (G := noGl) (ro := ro) (T := T) (T1 := T1) (t := 59) (tx := 59) (s := s) (x := x) (l := l) (es := es) (es2 := es2) (k := k) (n := n) (bn := bn) Tryz.underlying59 i1 i4 (by rw [i2]; rfl) (by rw [i2]; decide) (by kernel_rfl) (by rw [i2]; exact hs) (by rw [i2]; exact hx)
    (by have h1 := i3
        have h2 := Nat.mul_le_mul hb h1
        omega)
  rw [i2] at h
  exact h
theorem opure_in {x i : Operand} {l : List (Nat × TV)} {b : Bs} {tok : Tok} {k : IntKind} {z : Int} {e : List TV} (hx : evOf noGl l x = .vec 1 b tok) (hz : evOf noGl l i = .val (.int k z)) (h0 : 0 ≤ z) (he : b[z.toNat]? = some e) :
  OPure Tryz.prog noGl (.indexAddr 59 x i) l (.elt e) := by
 obtain ⟨inf, i1, i2, _, _⟩ := inInf_ex
 exact opure_index (inf := inf) Tryz.underlying59 i1 (by rw [i2]; exact hx) hz h0 he
def ixR (l : List Int) (v : Int) : Int := match l.findIdx? (fun z => decide (v = z)) with
 | some k => k
 | none => -1
theorem ix_vcx (l : List Int) (hl : l.length ≤ 1000) (v : Int) : VCx Tryz.prog noGl 0 ixF [.vec 1 (iV l) .none, .val (.int .i64 v)] ⟨[], []⟩ fun x T' => x = .val (.int .i64 (ixR l v)) ∧ T' = ⟨[], []⟩ := by
  have hloop : LsOk Tryz.prog noGl (ixL (iV l) v (ixR l v) (ixR l v) (l.findIdx? (fun z => decide (v = z))).isSome (codeAt Tryz.prog ixF 0)) := specsL_ok fun p hp => by
    obtain rfl := List.mem_singleton.1 hp
    refine loopL_ok fun K hK => ?_
    let Post : Exit → List TV → VT → Prop := fun e vs T => (∃ k : Nat, l.findIdx? (fun z => decide (v = z)) = some k ∧ e = .ret ∧ vs = ixV (iV l) v k k ∧ T = ⟨[], []⟩) ∨ (l.findIdx? (fun z => decide (v = z)) = none ∧ e = .normal ∧ vs = ixV (iV l) v 0 l.length ∧ T = ⟨[], []⟩)
    refine loopK (f := ixF) (id := 0) (by kernel_rfl) 19 ixK (fun j : Nat => l.length - j) (fun j => ixV (iV l) v 0 j) (fun _ => ⟨[], []⟩) (fun j => j ≤ l.length ∧ ∀ k z, k < j → l[k]? = some z → v ≠ z) 0 0 (fun _ _ => ⟨Nat.le_refl _, Nat.le_refl _⟩)
      Post (fun j hj => ?_) 0 ⟨Nat.zero_le _, fun k _ hk => absurd hk (Nat.not_lt_zero k)⟩ K (fun e vs T hq => ?_)
    · obtain ⟨hj, hne⟩ := hj
      by_cases hlt : j < l.length
      · have hs : l[j]? = some l[j] := List.getElem?_eq_getElem hlt
        generalize hzz : l[j] = z at hs
        have hw := wrapN j (by omega)
        refine vx_is mixedB_Tryz bodiesB_Tryz specsOk_none lsOk_none (ev_ixA (iV l) v 0 z j _) ?_
        refine condT (decide_eq_true (by rw [iV_len]; omega)) ⟨opure_in rfl rfl (Int.natCast_nonneg _) (by rw [Int.toNat_natCast]; simp only [iV, List.getElem?_map, hs]; rfl), ?_⟩
        by_cases he : v = z
        · refine condT (by rw [eqI]; exact decide_eq_true he) ⟨rfl, rfl, .inl ⟨j, ?_, rfl, rfl, rfl⟩⟩
          refine List.findIdx?_eq_some_iff_getElem.2 ⟨hlt, by rw [hzz]; exact decide_eq_true he, fun k hk => ?_⟩
          have := hne k _ hk (List.getElem?_eq_getElem (by omega))
          simpa using this
        · refine condF (by rw [eqI]; exact decide_eq_false he) ⟨rfl, rfl, j + 1, ⟨hlt, fun k z' hk hz' => ?_⟩, by simp only; omega, .inr ⟨rfl, ?_⟩⟩
          · rcases Nat.lt_or_ge k j with h | h
            · exact hne k z' h hz'
            · obtain rfl : k = j := by omega
              rw [hs] at hz'; injection hz' with hz'; subst hz'; exact he
          · rw [hw]
            simp only [renL, TV.ren, iV_ren, Tok.ren, ixV]
      · obtain rfl : j = l.length := by omega
        refine vx_is mixedB_Tryz bodiesB_Tryz specsOk_none lsOk_none (ev_ixA (iV l) v 0 0 l.length _) ?_
        refine condF (decide_eq_false (by rw [iV_len]; omega)) ⟨rfl, rfl, .inr ⟨?_, rfl, rfl, rfl⟩⟩
        refine List.findIdx?_eq_none_iff.2 fun z hz => ?_
        obtain ⟨k, hk, rfl⟩ := List.getElem_of_mem hz
        simpa using hne k _ hk (List.getElem?_eq_getElem hk)
    · rcases hq with ⟨k, h1, rfl, rfl, rfl⟩ | ⟨h1, rfl, rfl, rfl⟩
      · simp only [h1, Option.isSome_some, cond_true, ixR] at hK
        exact hK
      · simp only [h1, Option.isSome_none, cond_false, iV_len] at hK
        exact hK
  refine vcallF_is mixedB_Tryz bodiesB_Tryz specsOk_none hloop (ev_ix (iV l) v (ixR l v) (ixR l v) _ _) ⟨rfl, ⟨rfl, rfl, rfl, trivial, rfl, rfl, rfl⟩, ?_⟩
  unfold ixR
  cases h : l.findIdx? (fun z => decide (v = z)) with
  | none => exact condF rfl ⟨rfl, rfl⟩
  | some k => exact condT rfl ⟨rfl, rfl⟩
theorem ixR_0 (l : List Int) : decide (ixR l 0 ≥ 0) = decide (0 ∈ l) := by
 unfold ixR
 cases h : l.findIdx? (fun z => decide (0 = z)) with
 | none =>
  have h1 := List.findIdx?_eq_none_iff.1 h
  have h2 : ¬ (0 : Int) ∈ l := fun hm => by simpa using h1 0 hm
  simp [h2]
 | some k =>
  obtain ⟨hk, h1, _⟩ := List.findIdx?_eq_some_iff_getElem.1 h
  have h2 : (0 : Int) ∈ l := by
   have e : (0 : Int) = l[k] := of_decide_eq_true h1
   rw [e]; exact List.getElem_mem hk
  have h3 : ((k : Nat) : Int) ≥ 0 := by omega
  rw [decide_eq_true h2]; exact decide_eq_true h3
theorem ct_vcx (l : List Int) (hl : l.length ≤ 1000) : VCx Tryz.prog noGl 0 ctF [.vec 1 (iV l) .none, .val (.int .i64 0)] ⟨[], []⟩ fun x T' => x = .val (.bool (has0 (iV l))) ∧ T' = ⟨[], []⟩ := by
 refine vcallF_is mixedB_Tryz bodiesB_Tryz (specs_ok fun p hp => by
  obtain rfl := List.mem_singleton.1 hp
  exact pureAt_ok gvals_noGl (by simp [renL, TV.ren, iV_ren, Tok.ren]) (fun _ _ => rfl) (ix_vcx l hl 0)) lsOk_none (ev_ct (iV l) 0 (ixR l 0) _) ⟨rfl, ?_, rfl⟩
 rw [has0_is, ixR_0]
theorem ctW_ok : ∀ ro ys T K, ctW ro ys T K → VCx Tryz.prog noGl ro ctF ys T K := by
 intro ro ys T K hw
 unfold ctW at hw
 split at hw
 ·rename_i L tok
  obtain ⟨⟨l, rfl, hl⟩, hk⟩ := hw
  exact VCx.loosePure gvals_noGl (ct_vcx l hl) (by simp [looseTV]) (by simp [renL, TV.ren, iV_ren, Tok.ren]) (fun f h => rfl) hk
 ·exact hw.elim
end Go.Proofs.YtogbdjlelkepcaaGreatDoor
namespace Go.Proofs.YtogbdjlelkepcaaGreatDoor
open Go.RowKit

abbrev PrSt := Bs × Int × Int × List Int
theorem pin_round (s0 : PrSt) (h0 : IsB s0.1) (n : Nat) (hn : s0.2.2.2.length + n ≤ 1000) (K : KX)
    (hK : K .normal (slotsN 55 ptKI (ptW (iV (prS n s0).2.2.2) n n)) ⟨[srcO (prS n s0).1 (prS n s0).2.1 (prS n s0).2.2.1], [((iV (prS n s0).2.2.2).length, 1, true)]⟩ []) :
    VWx Tryz.prog noGl none 0 (codeAt Tryz.prog ptF 2) (slotsN 55 ptKI (ptW (iV s0.2.2.2) n 0)) ⟨[srcO s0.1 s0.2.1 s0.2.2.1], [((iV s0.2.2.2).length, 1, true)]⟩ [] K := by
  let sl : Nat × PrSt → List TV := fun s => ptW (iV s.2.2.2.2) n s.1
  let TT : Nat × PrSt → VT := fun s => ⟨[srcO s.2.1 s.2.2.1 s.2.2.2.1], [((iV s.2.2.2.2).length, 1, true)]⟩
  let Post : Exit → List TV → VT → Prop := fun e vs T => e = .normal ∧ vs = ptW (iV (prS n s0).2.2.2) n n ∧ T = ⟨[srcO (prS n s0).1 (prS n s0).2.1 (prS n s0).2.2.1], [((iV (prS n s0).2.2.2).length, 1, true)]⟩
  refine loopK (f := ptF) (id := 2) (by kernel_rfl) 55 ptKI (fun s : Nat × PrSt => n - s.1) sl TT (fun s => s.1 ≤ n ∧ IsB s.2.1 ∧ s.2.2.2.2.length = s0.2.2.2.length + s.1 ∧ prS (n - s.1) s.2 = prS n s0) 1 1 (fun _ _ => ⟨Nat.le_refl _, Nat.le_refl _⟩)
    Post (fun s hs => ?_) (0, s0) ⟨Nat.zero_le _, h0, rfl, rfl⟩ K (fun e vs T ⟨h1, h2, h3⟩ => by subst h1 h2 h3; exact hK)
  obtain ⟨j, b, a, e, l⟩ := s
  obtain ⟨hj, hb, hlen, hgo⟩ := hs
  simp only at hj hb hlen hgo
  have hS : SpecsOk Tryz.prog noGl (specs [(wU16F, snW .i64 2)]) := specs_ok fun p hp => by obtain rfl := List.mem_singleton.1 hp; exact wU16_ok
  refine vx_is mixedB_Tryz bodiesB_Tryz hS lsOk_none (ev_ptI b (iV l) a e n j _) ?_
  by_cases hlt : j < n
  · have hw := wrapN j (by omega)
    refine condT (decide_eq_true (by omega)) ⟨⟨rfl, hb⟩, ?_, rfl, rfl, (j + 1, tkR 2 b e, tkA 2 b e a, tkE 2 b e, l ++ [nmB 2 b e]), ⟨hlt, tkR_is hb, by simp only [List.length_append, List.length_cons, List.length_nil]; omega, ?_⟩, by simp only; omega, .inr ⟨?_, ?_⟩⟩
    · have h := oturn_in (ro := 0) (T := ⟨[srcO (tkR 2 b e) (tkA 2 b e a) (tkE 2 b e)], [((iV l).length, 1, true)]⟩) (T1 := ⟨[srcO (tkR 2 b e) (tkA 2 b e a) (tkE 2 b e)], [((iV l).length, 1, true)]⟩) (s := .tmp 38) (x := .tmp 41) (l := [(38, .vec 1 (iV l) (.tail 0 (iV l).length)), (41, .vec 1 [iT (nmB 2 b e)] .full)]) (es := iV l) (es2 := [iT (nmB 2 b e)]) (k := 0) (n := (iV l).length) (bn := true)
        (by simp [evOf, evFind, vadopt]) rfl (by rw [iV_len]; simp only [List.length_cons, List.length_nil]; omega)
      exact h
    · rw [← hgo, show n - j = (n - (j + 1)) + 1 by omega]; rfl
    · refine (show VT.keep ⟨srcO (tkR 2 b e) (tkA 2 b e a) (tkE 2 b e) :: _, _⟩ 1 1 = _ from ?_)
      simp only [VT.keep, List.take_succ_cons, List.take_zero, List.map_cons, List.map_nil, srcO_ren (tkR_is hb)]
      simp only [TT, iV_app, List.length_append, List.length_cons, List.length_nil]
    · have e2 := iV_ren (Go.Proofs.YtogbdjlelkepcaaGreatDoor.keep 1) (Go.Proofs.YtogbdjlelkepcaaGreatDoor.keep 1) (l ++ [nmB 2 b e])
      rw [iV_app] at e2
      have e3 : renLL (Go.Proofs.YtogbdjlelkepcaaGreatDoor.keep 1) (Go.Proofs.YtogbdjlelkepcaaGreatDoor.keep 1) (iV l ++ [iT (nmB ((2 : Nat)) b e)]) = iV l ++ [iT (nmB 2 b e)] := e2
      rw [hw]
      simp only [renL, TV.ren, e3, Tok.ren]
      simp only [sl, ptW, iV_app, List.length_append, List.length_cons, List.length_nil]
      rfl
  · obtain rfl : j = n := by omega
    rw [Nat.sub_self] at hgo
    refine condF (decide_eq_false (by omega)) ⟨rfl, rfl, rfl, ?_, ?_⟩
    · rw [← hgo]; rfl
    · rw [← hgo]; rfl
def PInv (b0 b : Bs) (e : Int) (l : List Int) : Prop := l.length ≤ 16 ∧ ((e = 0 ∧ ¬ 0 ∈ l ∧ ptGo (b.length + 1) b l = ptP b0) ∨ ((¬ e = 0 ∨ 0 ∈ l) ∧ ptP b0 = none))
def PEnd (b0 : Bs) (L : Bs) (ez : Int) : Prop := ∃ l : List Int, L = iV l ∧ l.length ≤ 16 ∧ ((ez = 0 ∧ ¬ 0 ∈ l ∧ ptP b0 = some l) ∨ ((¬ ez = 0 ∨ 0 ∈ l) ∧ ptP b0 = none))
def ptPost (b0 : Bs) (ex : Exit) (vs : List TV) (T : VT) : Prop :=
 (∃ (L bz : Bs) (az ez : Int), (IsB bz ∧ PEnd b0 L ez) ∧ ex = .normal ∧ vs = ptV L ∧ T = ⟨[srcO bz az ez], [(L.length, 1, true)]⟩) ∨
 (∃ (rest : List VO) (tlz : List (Nat × Nat × Bool)) (Lz : Bs), ptP b0 = none ∧ ex = .ret ∧ vs = ptV Lz ∧ T = ⟨rest, tlz⟩)
theorem ptPost_ok {b0 : Bs} {K : KX} (hK : ptR (PEnd b0) (ptP b0 = none) K) {ex : Exit} {vs : List TV} {T : VT} (h : ptPost b0 ex vs T) : K ex (slotsN 55 ptK vs) T [] := by
 rcases h with ⟨L, bz, az, ez, h1, rfl, rfl, rfl⟩ | ⟨rest, tlz, Lz, h1, rfl, rfl, rfl⟩
 ·exact hK.1 L bz az ez h1
 ·exact hK.2 rest tlz Lz h1
theorem PInv.ret {b0 b : Bs} {l : List Int} (h : PInv b0 b 0 l) (hn : ptGo (b.length + 1) b l = none) : ptP b0 = none := by
 rcases h.2 with ⟨_, _, h3⟩ | ⟨_, h3⟩
 ·rw [← h3]; exact hn
 ·exact h3
theorem PInv.step {b0 b : Bs} {l : List Int} (h : PInv b0 b 0 l) (hl : leB b 0 > 0) (hh : ptH b = true) (h16 : l.length + (ptN b).toNat ≤ 16) (a : Int) : PInv b0 (prS (ptN b).toNat (ptB b, a, 0, l)).1 (prS (ptN b).toNat (ptB b, a, 0, l)).2.2.1 (prS (ptN b).toNat (ptB b, a, 0, l)).2.2.2 := by
  have hln : ∀ (k : Nat) (s : PrSt), (prS k s).2.2.2.length = s.2.2.2.length + k := by
    intro k
    induction k with
    | zero => intro s; rfl
    | succ k ih =>
      rintro ⟨b, a, e, l⟩
      simp only [prS]
      rw [ih]
      simp only [List.length_append, List.length_cons, List.length_nil]; omega
  refine ⟨by rw [hln]; exact h16, ?_⟩
  rcases h.2 with ⟨_, h2, h3⟩ | ⟨h2, h3⟩
  · rcases prS_ok (ptN b).toNat (ptB b) a l h16 with ⟨b', l', g1, g2, g3, g4, g5⟩ | ⟨g1, g2⟩
    · refine .inl ⟨g3, by rw [g4]; exact g5 h2, ?_⟩
      rw [g2, g4, ← ptGo_some hl hh g1]; exact h3
    · exact .inr ⟨g2, by rw [← h3]; exact ptGo_none hl g1⟩
  · refine .inr ⟨.inr ?_, h3⟩
    rcases h2 with h2 | h2
    · exact absurd rfl h2
    · exact prS_nought _ _ h2
theorem pin_loop (s0 : PrSt) (h0 : IsB s0.1) (n : Int) (h1 : 0 ≤ n) (hn : s0.2.2.2.length + n.toNat ≤ 1000) : LsOk Tryz.prog noGl (ptLI s0.1 (prS n.toNat s0).1 (iV s0.2.2.2) (iV (prS n.toNat s0).2.2.2) s0.2.1 s0.2.2.1 (prS n.toNat s0).2.1 (prS n.toNat s0).2.2.1 n (codeAt Tryz.prog ptF 2)) := specsL_ok fun p hp => by
 obtain rfl := List.mem_singleton.1 hp
 refine loopL_ok fun K hK => ?_
 have h := pin_round s0 h0 n.toNat hn K
 rw [show ((n.toNat : Nat) : Int) = n by omega] at h
 exact h hK
end Go.Proofs.YtogbdjlelkepcaaGreatDoor
namespace Go.Proofs.YtogbdjlelkepcaaGreatDoor
open Go.RowKit

theorem keepP {b : Bs} (hb : IsB b) (a e : Int) (k : Nat) : VT.keep ⟨[srcO b a e], [(k, 1, true)]⟩ 1 1 = ⟨[srcO b a e], [(k, 1, true)]⟩ := by
 simp only [VT.keep, List.take_succ_cons, List.take_zero, List.map_cons, List.map_nil, srcO_ren hb]
theorem dgt {l : List Int} {n : Int} (hwr : IntKind.wrap .i64 ((l.length : Int) + n) = (l.length : Int) + n) (h : decide (IntKind.wrap .i64 (((iV l).length : Int) + n) > 16) = true) : (l.length : Int) + n > 16 := by
 rw [iV_len, hwr] at h; exact of_decide_eq_true h
theorem dle {l : List Int} {n : Int} (hwr : IntKind.wrap .i64 ((l.length : Int) + n) = (l.length : Int) + n) (h : decide (IntKind.wrap .i64 (((iV l).length : Int) + n) > 16) = false) : ¬ (l.length : Int) + n > 16 := by
 rw [iV_len, hwr] at h; exact of_decide_eq_false h
theorem pt_round {b0 : Bs} (h0 : IsB b0) (K : KX) (hK : ptR (PEnd b0) (ptP b0 = none) K) : VWx Tryz.prog noGl none 0 (codeAt Tryz.prog ptF 0) (slotsN 55 ptK (ptV [])) ⟨[srcO b0 0 0], [(0, 1, true)]⟩ [] K := by
  let sl : PrSt → List TV := fun s => ptV (iV s.2.2.2)
  let TT : PrSt → VT := fun s => ⟨[srcO s.1 s.2.1 s.2.2.1], [((iV s.2.2.2).length, 1, true)]⟩
  refine loopK (f := ptF) (id := 0) (by kernel_rfl) 55 ptK (fun s : PrSt => s.1.length) sl TT (fun s => IsB s.1 ∧ PInv b0 s.1 s.2.2.1 s.2.2.2) 1 1 (fun _ _ => ⟨Nat.le_refl _, Nat.le_refl _⟩)
    (ptPost b0) (fun s hs => ?_) (b0, 0, 0, []) ⟨h0, ⟨Nat.zero_le _, .inl ⟨rfl, by simp, rfl⟩⟩⟩ K (fun e vs T h => ptPost_ok hK h)
  obtain ⟨b, a, e, l⟩ := s
  obtain ⟨hb, hI⟩ := hs
  simp only at hb hI
  have hS : SpecsOk Tryz.prog noGl (specs [(wLeF, slW), (wU8F, snW .i64 1)]) := specs_ok fun p hp => by
    rcases List.mem_cons.1 hp with rfl | hp; exact wLe_ok
    obtain rfl := List.mem_singleton.1 hp; exact wU8_ok
  by_cases hl : leB b e > 0
  · obtain ⟨rfl, _⟩ := le_pos hl
    let S0 : PrSt := (ptB b, tkA 1 (tkR 1 b 0) (tkE 1 b 0) (tkA 1 b 0 a), ptE b, l)
    have hnb : 0 ≤ ptN b ∧ ptN b < 256 := nm1 (tkR_is hb) _
    have hnb2 : 0 ≤ nmB 1 (tkR 1 b 0) (tkE 1 b 0) ∧ nmB 1 (tkR 1 b 0) (tkE 1 b 0) < 256 := hnb
    have hl16 := hI.1
    have hwr : IntKind.wrap .i64 ((l.length : Int) + ptN b) = (l.length : Int) + ptN b := wrap_id (by omega) (by omega)
    refine vx_is mixedB_Tryz bodiesB_Tryz hS (pin_loop S0 (ptB_is hb) (ptN b) hnb.1 (show l.length + (ptN b).toNat ≤ 1000 by omega)) (ev_ptA b (ptB b) (prS (ptN b).toNat S0).1 (iV l) (iV (prS (ptN b).toNat S0).2.2.2) a 0 (tkA 1 (tkR 1 b 0) (tkE 1 b 0) (tkA 1 b 0 a)) (ptE b) (prS (ptN b).toNat S0).2.1 (prS (ptN b).toNat S0).2.2.1 (ptN b) _) ?_
    refine ⟨⟨rfl, hb⟩, ?_⟩
    refine condT (decide_eq_true hl) ⟨⟨rfl, hb⟩, ⟨rfl, tkR_is hb⟩, ?_⟩
    refine cond_of (fun c1 => ?_) (fun c1 => ?_)
    · refine cond_of (fun c1b => ?_) (fun c1b => ?_)
      · have hH : ptH b = false := by
          unfold ptH ptC
          rw [decide_eq_false (show ¬ nmB 1 b 0 = 1 from neIt c1), decide_eq_false (show ¬ nmB 1 b 0 = 2 from neIt c1b)]; rfl
        exact ⟨rfl, rfl, .inr ⟨_, _, iV l, hI.ret (ptGo_bad hl hH), rfl, rfl, rfl⟩⟩
      · have hC : (decide (ptC b = 1) || decide (ptC b = 2)) = true := by rw [decide_eq_true (show ptC b = 2 from neIf c1b), Bool.or_true]
        refine cond_of (fun c2 => ?_) (fun c2 => ?_)
        · have hH : ptH b = false := by unfold ptH ptN; rw [decide_eq_true (show nmB 1 (tkR 1 b 0) (tkE 1 b 0) = 0 from eqIt c2)]; simp
          exact ⟨rfl, rfl, .inr ⟨_, _, iV l, hI.ret (ptGo_bad hl hH), rfl, rfl, rfl⟩⟩
        have d2 : ¬ ptN b = 0 := eqIf c2
        refine cond_of (fun c3 => ?_) (fun c3 => ?_)
        · have d3 : (l.length : Int) + ptN b > 16 := dgt hwr c3
          exact ⟨rfl, rfl, .inr ⟨_, _, iV l, hI.ret (ptGo_none hl (ptI_over hI.1 (by omega))), rfl, rfl, rfl⟩⟩
        have d3 : ¬ (l.length : Int) + ptN b > 16 := dle hwr c3
        have h16 : l.length + (ptN b).toNat ≤ 16 := by omega
        have hE : ptE b = 0 := nmB_ne d2
        have hH : ptH b = true := by unfold ptH; rw [decide_eq_false d2, hC]; rfl
        have hst := hI.step hl hH h16 (tkA 1 (tkR 1 b 0) (tkE 1 b 0) (tkA 1 b 0 a))
        have hps : prS (ptN b).toNat (ptB b, tkA 1 (tkR 1 b 0) (tkE 1 b 0) (tkA 1 b 0 a), 0, l) = prS (ptN b).toNat S0 := by
          show prS (ptN b).toNat (ptB b, tkA 1 (tkR 1 b 0) (tkE 1 b 0) (tkA 1 b 0 a), 0, l) = prS (ptN b).toNat (ptB b, tkA 1 (tkR 1 b 0) (tkE 1 b 0) (tkA 1 b 0 a), ptE b, l)
          rw [hE]
        rw [hps] at hst
        obtain ⟨i1, i2, _⟩ := prS_is (ptN b).toNat S0 (ptB_is hb)
        have hlt := ptB_lt hl
        refine ⟨rfl, ⟨rfl, rfl, rfl, trivial, rfl, rfl, rfl⟩, rfl, rfl, prS (ptN b).toNat S0, ⟨i1, hst⟩, Nat.lt_of_le_of_lt i2 hlt, .inr ⟨?_, ?_⟩⟩
        · exact keepP i1 _ _ _
        · have e2 := iV_ren (Go.Proofs.YtogbdjlelkepcaaGreatDoor.keep 1) (Go.Proofs.YtogbdjlelkepcaaGreatDoor.keep 1) (prS (ptN b).toNat S0).2.2.2
          simp only [renL, TV.ren, e2, Tok.ren]
          rfl
    · have hC : (decide (ptC b = 1) || decide (ptC b = 2)) = true := by rw [decide_eq_true (show ptC b = 1 from neIf c1), Bool.true_or]
      refine cond_of (fun c2 => ?_) (fun c2 => ?_)
      · have hH : ptH b = false := by unfold ptH ptN; rw [decide_eq_true (show nmB 1 (tkR 1 b 0) (tkE 1 b 0) = 0 from eqIt c2)]; simp
        exact ⟨rfl, rfl, .inr ⟨_, _, iV l, hI.ret (ptGo_bad hl hH), rfl, rfl, rfl⟩⟩
      have d2 : ¬ ptN b = 0 := eqIf c2
      refine cond_of (fun c3 => ?_) (fun c3 => ?_)
      · have d3 : (l.length : Int) + ptN b > 16 := dgt hwr c3
        exact ⟨rfl, rfl, .inr ⟨_, _, iV l, hI.ret (ptGo_none hl (ptI_over hI.1 (by omega))), rfl, rfl, rfl⟩⟩
      have d3 : ¬ (l.length : Int) + ptN b > 16 := dle hwr c3
      have h16 : l.length + (ptN b).toNat ≤ 16 := by omega
      have hE : ptE b = 0 := nmB_ne d2
      have hH : ptH b = true := by unfold ptH; rw [decide_eq_false d2, hC]; rfl
      have hst := hI.step hl hH h16 (tkA 1 (tkR 1 b 0) (tkE 1 b 0) (tkA 1 b 0 a))
      have hps : prS (ptN b).toNat (ptB b, tkA 1 (tkR 1 b 0) (tkE 1 b 0) (tkA 1 b 0 a), 0, l) = prS (ptN b).toNat S0 := by
        show prS (ptN b).toNat (ptB b, tkA 1 (tkR 1 b 0) (tkE 1 b 0) (tkA 1 b 0 a), 0, l) = prS (ptN b).toNat (ptB b, tkA 1 (tkR 1 b 0) (tkE 1 b 0) (tkA 1 b 0 a), ptE b, l)
        rw [hE]
      rw [hps] at hst
      obtain ⟨i1, i2, _⟩ := prS_is (ptN b).toNat S0 (ptB_is hb)
      have hlt := ptB_lt hl
      refine ⟨rfl, ⟨rfl, rfl, rfl, trivial, rfl, rfl, rfl⟩, rfl, rfl, prS (ptN b).toNat S0, ⟨i1, hst⟩, Nat.lt_of_le_of_lt i2 hlt, .inr ⟨?_, ?_⟩⟩
      · exact keepP i1 _ _ _
      · have e2 := iV_ren (Go.Proofs.YtogbdjlelkepcaaGreatDoor.keep 1) (Go.Proofs.YtogbdjlelkepcaaGreatDoor.keep 1) (prS (ptN b).toNat S0).2.2.2
        simp only [renL, TV.ren, e2, Tok.ren]
        rfl
  · refine vx_is mixedB_Tryz bodiesB_Tryz hS (pin_loop (b, a, e, l) hb 0 (Int.le_refl _) (show l.length + 0 ≤ 1000 by have := hI.1; omega)) (ev_ptA b b b (iV l) (iV l) a e a e a e 0 _) ?_
    refine ⟨⟨rfl, hb⟩, condF (decide_eq_false hl) ⟨rfl, rfl, .inl ⟨iV l, b, a, e, ⟨hb, l, rfl, hI.1, ?_⟩, rfl, rfl, rfl⟩⟩⟩
    rcases hI.2 with ⟨rfl, h2, h3⟩ | h
    · exact .inl ⟨rfl, h2, by rw [← h3]; exact ptGo_end hl⟩
    · exact .inr h
theorem pt_loop {b : Bs} (h : IsB b) : LsOk Tryz.prog noGl (ptL b (PEnd b) (ptP b = none) (codeAt Tryz.prog ptF 0)) := specsL_ok fun p hp => by
 obtain rfl := List.mem_singleton.1 hp
 exact loopL_ok fun K hK => pt_round h K hK
theorem pt_bad {b : Bs} (h : ptP b = none) : TVle (.tup [.val (.slice none 0 0), .val (.bool false)]) (ptX b) := by
 unfold ptX ptO ptA
 rw [h]
 exact .tup ⟨.nil 1, .refl _, trivial⟩
theorem pt_good {b : Bs} {l : List Int} (h : ptP b = some l) (tok : Tok) : TVle (.tup [.vec 1 (iV l) tok, .val (.bool true)]) (ptX b) := by
 unfold ptX ptO ptA
 rw [h]
 exact .tup ⟨.vec 1 _ _, .refl _, trivial⟩
theorem pt_vcx {b : Bs} (hb : IsB b) : VCx Tryz.prog noGl 0 ptF [.vec 1 b .none] ⟨[], []⟩ fun x T' => x = ptX b ∧ T' = ⟨[], []⟩ := by
 have hS : SpecsOk Tryz.prog noGl (specs [(wRdF, sreadW), (wErF, seW), (ctF, ctW)]) := specs_ok fun p hp => by
  rcases List.mem_cons.1 hp with rfl | hp; exact wRdW_ok
  rcases List.mem_cons.1 hp with rfl | hp; exact wEr_ok
  obtain rfl := List.mem_singleton.1 hp; exact ctW_ok
 refine VCx.toLe (Q := fun T' => T' = ⟨[], []⟩) (VCx.keepQ 0 0 (Nat.le_refl _) (Nat.le_refl _) (vcallF_is mixedB_Tryz bodiesB_Tryz hS (pt_loop hb) (ev_pt b (PEnd b) (ptP b = none) _) ?_))
 refine ⟨hb, rfl, ⟨rfl, rfl, rfl, ⟨rfl, trivial⟩, rfl, rfl, rfl⟩, ?_, fun rest tlz Lz hN => ⟨pt_bad hN, rfl⟩⟩
 rintro L bz az ez ⟨hbz, l, rfl, h16, hd⟩
 refine ⟨⟨rfl, hbz⟩, ?_⟩
 refine cond_of (fun c1 => ?_) (fun c1 => ?_)
 ·have he := eqIt c1
  refine ⟨⟨l, rfl, by omega⟩, ?_⟩
  rw [has0_is]
  rcases hd with ⟨_, h2, h3⟩ | ⟨h2, h3⟩
  ·rw [decide_eq_false h2]
   refine ⟨?_, rfl⟩
   simp only [TV.ren, renL, iV_ren]
   exact pt_good h3 _
  ·have h4 : (0 : Int) ∈ l := by
    rcases h2 with h2 | h2
    ·exact absurd he h2
    ·exact h2
   rw [decide_eq_true h4]
   exact ⟨pt_bad h3, rfl⟩
 ·have he := eqIf c1
  rcases hd with ⟨h1, _, _⟩ | ⟨_, h3⟩
  ·exact absurd h1 he
  ·exact ⟨pt_bad h3, rfl⟩
end Go.Proofs.YtogbdjlelkepcaaGreatDoor
namespace Go.Proofs.YtogbdjlelkepcaaGreatDoor
open Go.RowKit

def qnI (B : Bs) : Nat → Int → Int
 | 0, m => m
 | k + 1, m => qnI B k (tkN 2 B m 0)
def qiPost (B : Bs) (m0 : Int) (k0 : Nat) (l0 : List Int) (ex : Exit) (vs : List TV) (T : VT) : Prop :=
 (∃ b' l', ptI k0 (remB B m0) l0 = some (b', l') ∧ ex = .normal ∧ vs = qtW (iV l') 0 ∧ T = ⟨[rsO B (qnI B k0 m0) 0], [((iV l').length, 1, true)]⟩) ∨
 (∃ (rest : List VO) (tlz : List (Nat × Nat × Bool)) (Lz : Bs) (nz : Int), ptI k0 (remB B m0) l0 = none ∧ ex = .ret ∧ vs = qtW Lz nz ∧ T = ⟨rest, tlz⟩)
def qiL (B : Bs) (m0 : Int) (k0 : Nat) (l0 : List Int) : List Int := match ptI k0 (remB B m0) l0 with
 | some p => p.2
 | none => []
def qiO (B : Bs) (m0 : Int) (k0 : Nat) (l0 : List Int) : Bool := (ptI k0 (remB B m0) l0).isSome
theorem qiPost_ok {B : Bs} {m0 : Int} {k0 : Nat} {l0 : List Int} {K : KX} (hK : qtRI B (iV (qiL B m0 k0 l0)) (qnI B k0 m0) (qiO B m0 k0 l0) K) {ex : Exit} {vs : List TV} {T : VT} (h : qiPost B m0 k0 l0 ex vs T) : K ex (slotsN 58 qtKI vs) T [] := by
 unfold qtRI qiL qiO at hK
 rcases h with ⟨b', l', h1, rfl, rfl, rfl⟩ | ⟨rest, tlz, Lz, nz, h1, rfl, rfl, rfl⟩
 ·simp only [h1, Option.isSome_some, cond_true] at hK
  exact hK
 ·simp only [h1, Option.isSome_none, cond_false] at hK
  exact hK rest tlz Lz nz
theorem qin_round {B : Bs} (hB : IsB B) {m0 : Int} (hm0 : InB B m0) (k0 : Nat) (hk0 : k0 ≤ 1000) (l0 : List Int) (hl0 : l0.length ≤ 16) (K : KX) (hK : qtRI B (iV (qiL B m0 k0 l0)) (qnI B k0 m0) (qiO B m0 k0 l0) K) :
    VWx Tryz.prog noGl none 0 (codeAt Tryz.prog q7PF 2) (slotsN 58 qtKI (qtW (iV l0) k0)) ⟨[rsO B m0 0], [((iV l0).length, 1, true)]⟩ [] K := by
  let sl : Nat × Int × List Int → List TV := fun s => qtW (iV s.2.2) s.1
  let TT : Nat × Int × List Int → VT := fun s => ⟨[rsO B s.2.1 0], [((iV s.2.2).length, 1, true)]⟩
  refine loopK (f := q7PF) (id := 2) (by kernel_rfl) 58 qtKI (fun s : Nat × Int × List Int => s.1) sl TT (fun s => s.1 ≤ 1000 ∧ InB B s.2.1 ∧ s.2.2.length ≤ 16 ∧ ptI s.1 (remB B s.2.1) s.2.2 = ptI k0 (remB B m0) l0 ∧ qnI B s.1 s.2.1 = qnI B k0 m0) 1 1 (fun _ _ => ⟨Nat.le_refl _, Nat.le_refl _⟩)
    (qiPost B m0 k0 l0) (fun s hs => ?_) (k0, m0, l0) ⟨hk0, hm0, hl0, rfl, rfl⟩ K (fun ex vs T h => qiPost_ok hK h)
  obtain ⟨k, m, l⟩ := s
  obtain ⟨hk, hm, hl, hgo, hqn⟩ := hs
  simp only at hk hm hl hgo hqn
  have hS : SpecsOk Tryz.prog noGl (specs [(rU16F, rnW .i64 2)]) := specs_ok fun p hp => by obtain rfl := List.mem_singleton.1 hp; exact rU16_ok
  refine vx_is mixedB_Tryz bodiesB_Tryz hS lsOk_none (ev_qtI B (iV l) m k _) ?_
  cases k with
  | zero =>
    refine condF (decide_eq_false (by omega)) ⟨rfl, rfl, .inl ⟨remB B m, l, hgo.symm, rfl, rfl, ?_⟩⟩
    rw [← hqn]; rfl
  | succ k =>
    refine condT (decide_eq_true (by omega)) ⟨⟨rfl, hB, hm⟩, ?_⟩
    have bad : (decide (tkE 2 (remB B m) 0 = 0) && (!decide (nmB 2 (remB B m) 0 = 0) && !decide (l.length = 16))) = false → ptI k0 (remB B m0) l0 = none := fun h => by
      rw [← hgo]; simp only [ptI, h, cond_false]
    refine cond_of (fun c1 => ?_) (fun c1 => ?_)
    · exact ⟨rfl, rfl, .inr ⟨_, _, iV l, _, bad (by rw [decide_eq_false (show ¬ tkE 2 (remB B m) 0 = 0 from neIt c1)]; rfl), rfl, rfl, rfl⟩⟩
    have d1 : tkE 2 (remB B m) 0 = 0 := neIf c1
    refine cond_of (fun c2 => ?_) (fun c2 => ?_)
    · exact ⟨rfl, rfl, .inr ⟨_, _, iV l, _, bad (by rw [decide_eq_true (show nmB 2 (remB B m) 0 = 0 from eqIt c2), Bool.not_true, Bool.false_and, Bool.and_false]), rfl, rfl, rfl⟩⟩
    have d2 : ¬ nmB 2 (remB B m) 0 = 0 := eqIf c2
    refine cond_of (fun c3 => ?_) (fun c3 => ?_)
    · have d3 := eqIt c3
      rw [iV_len] at d3
      exact ⟨rfl, rfl, .inr ⟨_, _, iV l, _, bad (by rw [decide_eq_true (show l.length = 16 by omega), Bool.not_true, Bool.and_false, Bool.and_false]), rfl, rfl, rfl⟩⟩
    have d3 := eqIf c3
    rw [iV_len] at d3
    have hg : (decide (tkE 2 (remB B m) 0 = 0) && (!decide (nmB 2 (remB B m) 0 = 0) && !decide (l.length = 16))) = true := by
      rw [decide_eq_true d1, decide_eq_false d2, decide_eq_false (show ¬ l.length = 16 by omega)]; rfl
    have hr : remB B (tkN 2 B m 0) = tkR 2 (remB B m) 0 := tkN_rem hm 2 0
    have hz : IntKind.wrap .i64 (((k + 1 : Nat) : Int) - 1) = ((k : Nat) : Int) := by rw [wrap_id (by omega) (by omega)]; omega
    refine ⟨?_, rfl, rfl, (k, tkN 2 B m 0, l ++ [nmB 2 (remB B m) 0]), ⟨by omega, tkN_in hm 2 0, by rw [List.length_append, List.length_cons, List.length_nil]; omega, ?_, hqn⟩, Nat.lt_succ_self _, .inr ⟨?_, ?_⟩⟩
    · have h := oturn_in (ro := 0) (T := ⟨[rsO B (tkN 2 B m 0) (tkE 2 (remB B m) 0)], [((iV l).length, 1, true)]⟩) (T1 := ⟨[rsO B (tkN 2 B m 0) (tkE 2 (remB B m) 0)], [((iV l).length, 1, true)]⟩) (s := .tmp 48) (x := .tmp 50) (l := [(48, .vec 1 (iV l) (.tail 0 (iV l).length)), (50, .vec 1 [iT (nmB 2 (remB B m) 0)] .full)]) (es := iV l) (es2 := [iT (nmB 2 (remB B m) 0)]) (k := 0) (n := (iV l).length) (bn := true)
        (by simp [evOf, evFind, vadopt]) rfl (by rw [iV_len]; simp only [List.length_cons, List.length_nil]; omega)
      exact h
    · simp only
      rw [← hgo, hr]; simp only [ptI, hg, cond_true]
    · refine (show VT.keep ⟨rsO B (tkN 2 B m 0) (tkE 2 (remB B m) 0) :: _, _⟩ 1 1 = _ from ?_)
      rw [d1]
      simp only [VT.keep, List.take_succ_cons, List.take_zero, List.map_cons, List.map_nil, rsO_ren hB]
      simp only [TT, iV_app, List.length_append, List.length_cons, List.length_nil]
    · have e2 := iV_ren (Go.Proofs.YtogbdjlelkepcaaGreatDoor.keep 1) (Go.Proofs.YtogbdjlelkepcaaGreatDoor.keep 1) (l ++ [nmB 2 (remB B m) 0])
      rw [iV_app] at e2
      have e3 : renLL (Go.Proofs.YtogbdjlelkepcaaGreatDoor.keep 1) (Go.Proofs.YtogbdjlelkepcaaGreatDoor.keep 1) (iV l ++ [iT (nmB ((2 : Nat)) (remB B m) 0)]) = iV l ++ [iT (nmB 2 (remB B m) 0)] := e2
      rw [hz]
      simp only [renL, TV.ren, e3, Tok.ren]
      simp only [sl, qtW, iV_app, List.length_append, List.length_cons, List.length_nil]
      rfl
theorem qin_loop {B : Bs} (hB : IsB B) {m : Int} (hm : InB B m) {k : Int} (hk0 : 0 ≤ k) (hk : k ≤ 1000) (l : List Int) (hl : l.length ≤ 16) : LsOk Tryz.prog noGl (qtLI B (iV l) (iV (qiL B m k.toNat l)) m (qnI B k.toNat m) k (qiO B m k.toNat l) (codeAt Tryz.prog q7PF 2)) := specsL_ok fun p hp => by
 obtain rfl := List.mem_singleton.1 hp
 refine loopL_ok fun K hK => ?_
 have h := qin_round hB hm k.toNat (by omega) l hl K hK
 rw [show ((k.toNat : Nat) : Int) = k by omega] at h
 exact h
theorem qnI_rem {B : Bs} : ∀ (k : Nat) (m : Int) (l : List Int) (b' : Bs) (l' : List Int), InB B m → ptI k (remB B m) l = some (b', l') → remB B (qnI B k m) = b' ∧ InB B (qnI B k m)
 | 0, m, l, b', l', hm, h => by
  simp only [ptI, Option.some.injEq, Prod.mk.injEq] at h
  exact ⟨h.1, hm⟩
 | k + 1, m, l, b', l', hm, h => by
  unfold ptI at h
  have hr : remB B (tkN 2 B m 0) = tkR 2 (remB B m) 0 := tkN_rem hm 2 0
  cases hc : (decide (tkE 2 (remB B m) 0 = 0) && (!decide (nmB 2 (remB B m) 0 = 0) && !decide (l.length = 16))) <;> rw [hc] at h
  ·cases h
  ·rw [cond_true, ← hr] at h
   exact qnI_rem k _ _ _ _ (tkN_in hm 2 0) h
def qtPost (B : Bs) (ex : Exit) (vs : List TV) (T : VT) : Prop :=
 (∃ (l : List Int) (nz : Int), ptP B = some l ∧ ex = .normal ∧ vs = ptV (iV l) ∧ T = ⟨[rsO B nz 0], [((iV l).length, 1, true)]⟩) ∨
 (∃ (rest : List VO) (tlz : List (Nat × Nat × Bool)) (Lz : Bs), ptP B = none ∧ ex = .ret ∧ vs = ptV Lz ∧ T = ⟨rest, tlz⟩)
theorem qtPost_ok {B : Bs} {K : KX} (hK : qtR B (iV (ptA B)) (ptO B) K) {ex : Exit} {vs : List TV} {T : VT} (h : qtPost B ex vs T) : K ex (slotsN 58 ptK vs) T [] := by
 unfold qtR ptA ptO at hK
 rcases h with ⟨l, nz, h1, rfl, rfl, rfl⟩ | ⟨rest, tlz, Lz, h1, rfl, rfl, rfl⟩
 ·simp only [h1, Option.isSome_some, cond_true, Option.getD_some] at hK
  exact hK nz
 ·simp only [h1, Option.isSome_none, cond_false] at hK
  exact hK rest tlz Lz
theorem qt_round {B : Bs} (hB : IsB B) (K : KX) (hK : qtR B (iV (ptA B)) (ptO B) K) : VWx Tryz.prog noGl none 0 (codeAt Tryz.prog q7PF 0) (slotsN 58 ptK (ptV [])) ⟨[rsO B 0 0], [(0, 1, true)]⟩ [] K := by
  let sl : Int × List Int → List TV := fun s => ptV (iV s.2)
  let TT : Int × List Int → VT := fun s => ⟨[rsO B s.1 0], [((iV s.2).length, 1, true)]⟩
  refine loopK (f := q7PF) (id := 0) (by kernel_rfl) 58 ptK (fun s : Int × List Int => (remB B s.1).length) sl TT (fun s => InB B s.1 ∧ s.2.length ≤ 16 ∧ ptGo ((remB B s.1).length + 1) (remB B s.1) s.2 = ptP B) 1 1 (fun _ _ => ⟨Nat.le_refl _, Nat.le_refl _⟩)
    (qtPost B) (fun s hs => ?_) (0, []) ⟨in0 hB, Nat.zero_le _, rfl⟩ K (fun ex vs T h => qtPost_ok hK h)
  obtain ⟨m, l⟩ := s
  obtain ⟨hm, hl16, hgo⟩ := hs
  simp only at hm hl16 hgo
  have hrem := remB_is hB m
  have hS : SpecsOk Tryz.prog noGl (specs [(rLeF, rlW), (rU8F, rnW .i64 1)]) := specs_ok fun p hp => by
    rcases List.mem_cons.1 hp with rfl | hp; exact rLe_ok
    obtain rfl := List.mem_singleton.1 hp; exact rU8_ok
  have i1 := tkN_in hm 1 0
  have r1 : remB B (tkN 1 B m 0) = tkR 1 (remB B m) 0 := tkN_rem hm 1 0
  have i2 := tkN_in i1 1 (tkE 1 (remB B m) 0)
  have r2 : remB B (tkN 1 B (tkN 1 B m 0) (tkE 1 (remB B m) 0)) = ptB (remB B m) := by rw [tkN_rem i1 1, r1]; rfl
  have hnb : 0 ≤ ptN (remB B m) ∧ ptN (remB B m) < 256 := nm1 (tkR_is hrem) _
  have hLI := qin_loop hB i2 hnb.1 (by omega) l hl16
  refine vx_is mixedB_Tryz bodiesB_Tryz hS hLI (ev_qtA B (iV l) (iV (qiL B (tkN 1 B (tkN 1 B m 0) (tkE 1 (remB B m) 0)) (ptN (remB B m)).toNat l)) m (tkN 1 B (tkN 1 B m 0) (tkE 1 (remB B m) 0)) (qnI B (ptN (remB B m)).toNat (tkN 1 B (tkN 1 B m 0) (tkE 1 (remB B m) 0))) (ptN (remB B m)) (qiO B (tkN 1 B (tkN 1 B m 0) (tkE 1 (remB B m) 0)) (ptN (remB B m)).toNat l) _) ?_
  refine ⟨⟨rfl, hB, hm⟩, ?_⟩
  by_cases hl : leB (remB B m) 0 > 0
  · refine condT (decide_eq_true hl) ⟨⟨rfl, hB, hm⟩, ⟨rfl, hB, i1⟩, ?_⟩
    refine cond_of (fun c1 => ?_) (fun c1 => ?_)
    · have d1 : ptC (remB B m) < 1 := of_decide_eq_true c1
      have hH : ptH (remB B m) = false := by unfold ptH; rw [decide_eq_false (show ¬ ptC (remB B m) = 1 by omega), decide_eq_false (show ¬ ptC (remB B m) = 2 by omega)]; rfl
      exact ⟨rfl, rfl, .inr ⟨_, _, iV l, by rw [← hgo]; exact ptGo_bad hl hH, rfl, rfl, rfl⟩⟩
    have d1 : ¬ ptC (remB B m) < 1 := of_decide_eq_false c1
    refine cond_of (fun c2 => ?_) (fun c2 => ?_)
    · have d2 : ptC (remB B m) > 2 := of_decide_eq_true c2
      have hH : ptH (remB B m) = false := by unfold ptH; rw [decide_eq_false (show ¬ ptC (remB B m) = 1 by omega), decide_eq_false (show ¬ ptC (remB B m) = 2 by omega)]; rfl
      exact ⟨rfl, rfl, .inr ⟨_, _, iV l, by rw [← hgo]; exact ptGo_bad hl hH, rfl, rfl, rfl⟩⟩
    have d2 : ¬ ptC (remB B m) > 2 := of_decide_eq_false c2
    have hC : (decide (ptC (remB B m) = 1) || decide (ptC (remB B m) = 2)) = true := by
      rcases (show ptC (remB B m) = 1 ∨ ptC (remB B m) = 2 by omega) with h | h
      · rw [decide_eq_true h]; rfl
      · rw [decide_eq_true h, Bool.or_true]
    have hN : nmB (1 : Nat) (remB B (tkN (1 : Nat) B m 0)) (tkE (1 : Nat) (remB B m) 0) = ptN (remB B m) := congrArg (fun y => nmB 1 y (tkE 1 (remB B m) 0)) r1
    have hE : tkE (1 : Nat) (remB B (tkN (1 : Nat) B m 0)) (tkE (1 : Nat) (remB B m) 0) = ptE (remB B m) := congrArg (fun y => tkE 1 y (tkE 1 (remB B m) 0)) r1
    try delta zzy24 zzy25
    rw [hN, hE]
    refine cond_of (fun c3 => ?_) (fun c3 => ?_)
    · have hH : ptH (remB B m) = false := by unfold ptH; rw [decide_eq_true (eqIt c3), Bool.not_true, Bool.and_false]
      exact ⟨rfl, rfl, .inr ⟨_, _, iV l, by rw [← hgo]; exact ptGo_bad hl hH, rfl, rfl, rfl⟩⟩
    have d3 : ¬ ptN (remB B m) = 0 := eqIf c3
    have hH : ptH (remB B m) = true := by unfold ptH; rw [hC, decide_eq_false d3]; rfl
    have hE0 : ptE (remB B m) = 0 := nmB_ne d3
    rw [hE0]
    refine ⟨rfl, ⟨rfl, rfl, rfl, trivial, rfl, rfl, rfl⟩, ?_⟩
    unfold qiO qiL
    rw [r2]
    cases hi : ptI (ptN (remB B m)).toNat (ptB (remB B m)) l with
    | none =>
      exact fun rest tlz Lz nz => ⟨rfl, rfl, .inr ⟨rest, tlz, Lz, by rw [← hgo]; exact ptGo_none hl hi, rfl, rfl, rfl⟩⟩
    | some p =>
      obtain ⟨b', l'⟩ := p
      obtain ⟨g1, g2⟩ := qnI_rem _ _ _ b' l' i2 (by rw [r2]; exact hi)
      have h16 := ptI_16 _ _ _ _ _ hl16 hi
      have hlt := ptB_lt hl
      have hle := (ptI_len _ _ _ _ _ hi).1
      refine ⟨rfl, rfl, (qnI B (ptN (remB B m)).toNat (tkN 1 B (tkN 1 B m 0) (tkE 1 (remB B m) 0)), l'), ⟨g2, h16, by simp only [g1]; rw [← hgo]; exact (ptGo_some hl hH hi).symm⟩, by simp only [g1]; omega, .inr ⟨?_, ?_⟩⟩
      · refine (show VT.keep ⟨rsO B (qnI B (ptN (remB B m)).toNat (tkN 1 B (tkN 1 B m 0) (tkE 1 (remB B m) 0))) 0 :: _, _⟩ 1 1 = _ from ?_)
        simp only [VT.keep, List.take_succ_cons, List.take_zero, List.map_cons, List.map_nil, rsO_ren hB]
        rfl
      · have e2 := iV_ren (Go.Proofs.YtogbdjlelkepcaaGreatDoor.keep 1) (Go.Proofs.YtogbdjlelkepcaaGreatDoor.keep 1) l'
        simp only [renL, TV.ren, e2, Tok.ren]
        rfl
  · exact condF (decide_eq_false hl) ⟨rfl, rfl, .inl ⟨l, m, by rw [← hgo]; exact ptGo_end hl, rfl, rfl, rfl⟩⟩
theorem qt_loop {b : Bs} (h : IsB b) : LsOk Tryz.prog noGl (qtL b (iV (ptA b)) (ptO b) (codeAt Tryz.prog q7PF 0)) := specsL_ok fun p hp => by
 obtain rfl := List.mem_singleton.1 hp
 exact loopL_ok fun K hK => qt_round h K hK
theorem qt_vcx {b : Bs} (hb : IsB b) : VCx Tryz.prog noGl 0 q7PF [.vec 1 b .none] ⟨[], []⟩ fun x T' => x = ptX b ∧ T' = ⟨[], []⟩ := by
 refine VCx.toLe (Q := fun T' => T' = ⟨[], []⟩) (VCx.keepQ 0 0 (Nat.le_refl _) (Nat.le_refl _) (vcallF_is mixedB_Tryz bodiesB_Tryz (specs_ok fun p hp => by obtain rfl := List.mem_singleton.1 hp; exact rRdW_ok) (qt_loop hb) (ev_qt b (iV (ptA b)) (ptO b) _) ?_))
 refine ⟨⟨hb, hb.small⟩, rfl, ⟨rfl, rfl, rfl, ⟨rfl, trivial⟩, rfl, rfl, rfl⟩, ?_⟩
 unfold ptO ptA
 cases h : ptP b with
 | none => exact fun rest tlz Lz => ⟨pt_bad h, rfl⟩
 | some l =>
  refine fun nz => ⟨?_, rfl⟩
  simp only [TV.ren, renL, Option.getD_some, iV_ren]
  exact pt_good h _
end Go.Proofs.YtogbdjlelkepcaaGreatDoor
