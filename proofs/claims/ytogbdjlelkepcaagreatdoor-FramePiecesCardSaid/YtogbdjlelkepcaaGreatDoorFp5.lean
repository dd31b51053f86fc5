/- Part 5 of the proof of framePiecesCard_holds: MsPq, MsPw, MsPx ... No condition. -/
import Derived.Deep.Slices
import Derived.ProofKit
import Derived.OpenShut
import Derived.Lib.SmallJoins
import Derived.Lib.LaidTab
import Derived.LaidHandle
import Derived.ChangeVars
import Derived.JoinedOf
import Derived.Stop.Joined
import Derived.Test.YtogbdjlelkepcaaGreatDoorFp1
import Derived.Test.YtogbdjlelkepcaaGreatDoorFp2
import Derived.Test.YtogbdjlelkepcaaGreatDoorFp3
import Derived.Test.YtogbdjlelkepcaaGreatDoorFp4
set_option maxRecDepth 100000
namespace Go.Proofs.YtogbdjlelkepcaaGreatDoor
open Go.RowKit

def ptI : Nat → Bs → List Int → Option (Bs × List Int)
 | 0, b, l => some (b, l)
 | k + 1, b, l => bif decide (tkE 2 b 0 = 0) && (!decide (nmB 2 b 0 = 0) && !decide (l.length = 16)) then ptI k (tkR 2 b 0) (l ++ [nmB 2 b 0]) else none
def ptC (b : Bs) : Int := nmB 1 b 0
def ptN (b : Bs) : Int := nmB 1 (tkR 1 b 0) (tkE 1 b 0)
def ptB (b : Bs) : Bs := tkR 1 (tkR 1 b 0) (tkE 1 b 0)
def ptE (b : Bs) : Int := tkE 1 (tkR 1 b 0) (tkE 1 b 0)
def ptH (b : Bs) : Bool := (decide (ptC b = 1) || decide (ptC b = 2)) && !decide (ptN b = 0)
def ptGo : Nat → Bs → List Int → Option (List Int)
 | 0, _, _ => none
 | k + 1, b, l => bif decide (leB b 0 > 0) then (bif ptH b then (match ptI (ptN b).toNat (ptB b) l with
  | some (b', l') => ptGo k b' l'
  | none => none) else none) else some l
def ptP (b : Bs) : Option (List Int) := ptGo (b.length + 1) b []
def ptO (b : Bs) : Bool := (ptP b).isSome
def ptA (b : Bs) : List Int := (ptP b).getD []
def ptX (b : Bs) : TV := .tup [.vec 1 (iV (ptA b)) .none, .val (.bool (ptO b))]
theorem iV_len (l : List Int) : (iV l).length = l.length := List.length_map _
theorem iV_app (l : List Int) (z : Int) : iV (l ++ [z]) = iV l ++ [iT z] := by simp [iV]
theorem iV_ren (f g : Nat → Option Nat) : ∀ l : List Int, renLL f g (iV l) = iV l
 | [] => rfl
 | a :: l => by
  have h := iV_ren f g l
  simp only [iV, List.map_cons, renLL] at h ⊢
  rw [h]; rfl
theorem nmB_ne {k : Nat} {b : Bs} {e : Int} (h : ¬ nmB k b e = 0) : tkE k b e = 0 := by
 unfold nmB at h
 cases hc : tkOk k b e
 ·rw [hc] at h; exact absurd rfl h
 ·simp only [tkOk, Bool.and_eq_true, decide_eq_true_eq] at hc
  unfold tkE
  rw [decide_eq_true hc.1.1, decide_eq_false (show ¬ ((k : Nat) : Int) < 0 by omega), decide_eq_true hc.2]; rfl
theorem ptB_lt {b : Bs} (h : leB b 0 > 0) : (ptB b).length < b.length := by
 have h1 := tk1_len h
 have h2 := tkR_le (n := 1) (b := tkR 1 b 0) (e := tkE 1 b 0)
 unfold ptB
 omega
theorem ptB_is {b : Bs} (h : IsB b) : IsB (ptB b) := tkR_is (tkR_is h)
theorem ptI_len : ∀ (k : Nat) (b : Bs) (l : List Int) (b' : Bs) (l' : List Int), ptI k b l = some (b', l') → b'.length ≤ b.length ∧ l'.length = l.length + k
 | 0, b, l, b', l', h => by
  simp only [ptI, Option.some.injEq, Prod.mk.injEq] at h
  obtain ⟨rfl, rfl⟩ := h
  exact ⟨Nat.le_refl _, rfl⟩
 | k + 1, b, l, b', l', h => by
  unfold ptI at h
  cases hc : (decide (tkE 2 b 0 = 0) && (!decide (nmB 2 b 0 = 0) && !decide (l.length = 16))) <;> rw [hc] at h
  ·cases h
  ·obtain ⟨h1, h2⟩ := ptI_len k _ _ _ _ h
   have h3 := tkR_le (n := 2) (b := b) (e := 0)
   refine ⟨Nat.le_trans h1 h3, ?_⟩
   rw [h2, List.length_append, List.length_cons, List.length_nil]; omega
theorem ptI_16 : ∀ (k : Nat) (b : Bs) (l : List Int) (b' : Bs) (l' : List Int), l.length ≤ 16 → ptI k b l = some (b', l') → l'.length ≤ 16
 | 0, b, l, b', l', h0, h => by
  simp only [ptI, Option.some.injEq, Prod.mk.injEq] at h
  rw [← h.2]; exact h0
 | k + 1, b, l, b', l', h0, h => by
  unfold ptI at h
  cases hc : (decide (tkE 2 b 0 = 0) && (!decide (nmB 2 b 0 = 0) && !decide (l.length = 16))) <;> rw [hc] at h
  ·cases h
  ·simp only [Bool.and_eq_true, Bool.not_eq_true', decide_eq_false_iff_not] at hc
   exact ptI_16 k _ _ _ _ (by rw [List.length_append, List.length_cons, List.length_nil]; omega) h
theorem ptI_over {k : Nat} {b : Bs} {l : List Int} (h0 : l.length ≤ 16) (h : l.length + k > 16) : ptI k b l = none := by
 cases hc : ptI k b l with
 | none => rfl
 | some p =>
  obtain ⟨b', l'⟩ := p
  have h1 := (ptI_len k b l b' l' hc).2
  have h2 := ptI_16 k b l b' l' h0 hc
  omega
theorem ptGo_fuel : ∀ (k j : Nat) (b : Bs) (l : List Int), b.length < k → b.length < j → ptGo k b l = ptGo j b l
 | 0, _, _, _, h, _ => absurd h (Nat.not_lt_zero _)
 | _, 0, _, _, _, h => absurd h (Nat.not_lt_zero _)
 | k + 1, j + 1, b, l, h1, h2 => by
  unfold ptGo
  by_cases hl : leB b 0 > 0
  ·have hb := ptB_lt hl
   rw [decide_eq_true hl]
   cases hi : ptI (ptN b).toNat (ptB b) l with
   | none => rfl
   | some p =>
    obtain ⟨b', l'⟩ := p
    have h3 := (ptI_len _ _ _ _ _ hi).1
    simp only [ptGo_fuel k j b' l' (by omega) (by omega)]
  ·rw [decide_eq_false hl]; rfl
theorem ptGo_bad {b : Bs} {l : List Int} (hl : leB b 0 > 0) (hh : ptH b = false) : ptGo (b.length + 1) b l = none := by
 simp only [ptGo, decide_eq_true hl, hh, cond_true, cond_false]
theorem ptGo_none {b : Bs} {l : List Int} (hl : leB b 0 > 0) (hi : ptI (ptN b).toNat (ptB b) l = none) : ptGo (b.length + 1) b l = none := by
 simp only [ptGo, decide_eq_true hl, hi, cond_true]
 cases ptH b <;> rfl
theorem ptGo_some {b b' : Bs} {l l' : List Int} (hl : leB b 0 > 0) (hh : ptH b = true) (hi : ptI (ptN b).toNat (ptB b) l = some (b', l')) : ptGo (b.length + 1) b l = ptGo (b'.length + 1) b' l' := by
 have h1 := ptB_lt hl
 have h2 := (ptI_len _ _ _ _ _ hi).1
 rw [ptGo_fuel (b'.length + 1) b.length b' l' (by omega) (by omega)]
 simp only [ptGo, decide_eq_true hl, hh, hi, cond_true]
theorem ptGo_end {b : Bs} {l : List Int} (hl : ¬ leB b 0 > 0) : ptGo (b.length + 1) b l = some l := by
 simp only [ptGo, decide_eq_false hl, cond_false]
def prS : Nat → Bs × Int × Int × List Int → Bs × Int × Int × List Int
 | 0, s => s
 | k + 1, (b, a, e, l) => prS k (tkR 2 b e, tkA 2 b e a, tkE 2 b e, l ++ [nmB 2 b e])
theorem prS_is : ∀ (k : Nat) (s : Bs × Int × Int × List Int), IsB s.1 → IsB (prS k s).1 ∧ (prS k s).1.length ≤ s.1.length ∧ (prS k s).2.2.2.length = s.2.2.2.length + k
 | 0, s, h => ⟨h, Nat.le_refl _, rfl⟩
 | k + 1, (b, a, e, l), h => by
  obtain ⟨h1, h2, h3⟩ := prS_is k (tkR 2 b e, tkA 2 b e a, tkE 2 b e, l ++ [nmB 2 b e]) (tkR_is h)
  have h4 := tkR_le (n := 2) (b := b) (e := e)
  simp only [List.length_append, List.length_cons, List.length_nil] at h2 h3
  refine ⟨h1, ?_, ?_⟩
  ·simp only [prS]; omega
  ·simp only [prS]; omega
theorem tkE_st {n : Int} {b : Bs} {e : Int} (h : ¬ e = 0) : tkE n b e = e := by unfold tkE; rw [decide_eq_false h]; rfl
theorem prS_err : ∀ (k : Nat) (s : Bs × Int × Int × List Int), ¬ s.2.2.1 = 0 → ¬ (prS k s).2.2.1 = 0
 | 0, _, h => h
 | k + 1, (b, a, e, l), h => by
  simp only [prS]
  exact prS_err k _ (by simp only; rw [tkE_st h]; exact h)
theorem prS_nought : ∀ (k : Nat) (s : Bs × Int × Int × List Int), 0 ∈ s.2.2.2 → 0 ∈ (prS k s).2.2.2
 | 0, _, h => h
 | k + 1, (b, a, e, l), h => by
  simp only [prS]
  exact prS_nought k _ (List.mem_append_left _ h)
theorem prS_ok : ∀ (k : Nat) (b : Bs) (a : Int) (l : List Int), l.length + k ≤ 16 → (∃ b' l', ptI k b l = some (b', l') ∧ (prS k (b, a, 0, l)).1 = b' ∧ (prS k (b, a, 0, l)).2.2.1 = 0 ∧ (prS k (b, a, 0, l)).2.2.2 = l' ∧ (¬ 0 ∈ l → ¬ 0 ∈ l')) ∨
    (ptI k b l = none ∧ (¬ (prS k (b, a, 0, l)).2.2.1 = 0 ∨ 0 ∈ (prS k (b, a, 0, l)).2.2.2))
  | 0, b, a, l, _ => .inl ⟨b, l, rfl, rfl, rfl, rfl, fun h => h⟩
  | k + 1, b, a, l, h => by
    have h16 : ¬ l.length = 16 := by omega
    by_cases he : tkE 2 b 0 = 0
    · by_cases hz : nmB 2 b 0 = 0
      · refine .inr ⟨by simp only [ptI, decide_eq_true he, decide_eq_true hz, Bool.not_true, Bool.false_and, Bool.and_false, cond_false], .inr ?_⟩
        simp only [prS]
        refine prS_nought k _ (List.mem_append_right _ ?_)
        rw [show nmB 2 b 0 = 0 from hz]; exact List.mem_cons_self
      · have e1 : ptI (k + 1) b l = ptI k (tkR 2 b 0) (l ++ [nmB 2 b 0]) := by
          simp only [ptI, decide_eq_true he, decide_eq_false hz, decide_eq_false h16, Bool.not_false, Bool.and_self, cond_true]
        have e2 : prS (k + 1) (b, a, 0, l) = prS k (tkR 2 b 0, tkA 2 b 0 a, 0, l ++ [nmB 2 b 0]) := by
          show prS k (tkR (2 : Int) b 0, tkA 2 b 0 a, tkE 2 b 0, l ++ [nmB 2 b 0]) = _
          rw [he]
        rw [e1, e2]
        rcases prS_ok k (tkR 2 b 0) (tkA 2 b 0 a) (l ++ [nmB 2 b 0]) (by rw [List.length_append, List.length_cons, List.length_nil]; omega) with ⟨b', l', g1, g2, g3, g4, g5⟩ | g
        · refine .inl ⟨b', l', g1, g2, g3, g4, fun hn => g5 fun hm => ?_⟩
          rcases List.mem_append.1 hm with hm | hm
          · exact hn hm
          · exact hz (List.mem_singleton.1 hm).symm
        · exact .inr g
    · refine .inr ⟨by simp only [ptI, decide_eq_false he, Bool.false_and, cond_false], .inl ?_⟩
      simp only [prS]
      exact prS_err k _ he
theorem has0_is (l : List Int) : has0 (iV l) = decide (0 ∈ l) := by
 induction l with
 | nil => rfl
 | cons a l ih =>
  have e : has0 (iV (a :: l)) = (decide (a = 0) || has0 (iV l)) := rfl
  rw [e, ih]
  by_cases ha : a = 0
  ·subst ha; simp
  ·have : ¬ (0 : Int) = a := fun h => ha h.symm
   simp [ha, this]
theorem inInf_ex : ∃ inf : TypeInfo, Tryz.prog.info? 3 = some inf ∧ inf.size = 1 ∧ inf.bytes + 1 ≤ 1000 ∧ inf.zero = some (.int .i64 0) :=
 ⟨(Tryz.prog.info? 3).getD default, by kernel_rfl, by kernel_rfl, Nat.le_of_ble_eq_true (by kernel_rfl), by kernel_rfl⟩
theorem oturn_in {ro : Nat} {T T1 : VT} {s x : Operand} {l : List (Nat × TV)} {es es2 : List (List TV)} {k n : Nat} {bn : Bool} (hs : vadopt T 1 (evOf noGl l s) = some (es, k, n, bn, T1)) (hx : srcOf 1 (evOf noGl l x) = some es2) (hb : es.length + es2.length ≤ 2000001) :
    OTurn Tryz.prog noGl ro T (.call ⟨.builtin .append, #[s, x], #[59, 59]⟩) l (.vec 1 (es ++ es2) (.tail k (n + es2.length))) { T1 with tails := T1.tails.set k (n + es2.length, 1, bn) } := by
  obtain ⟨inf, i1, i2, i3, i4⟩ := inInf_ex
  have h := oturn_app (inf := inf) (P := Tryz.prog) (G := noGl) (ro := ro) (T := T) (T1 := T1) (t := 59) (tx := 59) (s := s) (x := x) (l := l) (es := es) (es2 := es2) (k := k) (n := n) (bn := bn) Tryz.underlying59 i1 i4 (by rw [i2]; rfl) (by rw [i2]; decide) (by kernel_rfl) (by rw [i2]; exact hs) (by rw [i2]; exact hx)
    (by have h1 := i3
        have h2 := Nat.mul_le_mul hb h1
        omega)
  rw [i2] at h
  exact h
theorem opure_in {x i : Operand} {l : List (Nat × TV)} {b : Bs} {tok : Tok} {k : IntKind} {z : Int} {e : List TV} (hx : evOf noGl l x = .vec 1 b tok) (hz : evOf noGl l i = .val (.int k z)) (h0 : 0 ≤ z) (he : b[z.toNat]? = some e) :
  OPure Tryz.prog noGl (.indexAddr 59 x i) l (.elt e) := by
 obtain ⟨inf, i1, i2, _, _⟩ := inInf_ex
 exact opure_index (inf := inf) Tryz.underlying59 i1 (by rw [i2]; exact hx) hz h0 he
def ixR (l : List Int) (v : Int) : Int := match l.findIdx? (fun z => decide (v = z)) with
 | some k => k
 | none => -1
theorem ix_vcx (l : List Int) (hl : l.length ≤ 1000) (v : Int) : VCx Tryz.prog noGl 0 ixF [.vec 1 (iV l) .none, .val (.int .i64 v)] ⟨[], []⟩ fun x T' => x = .val (.int .i64 (ixR l v)) ∧ T' = ⟨[], []⟩ := by
  have hloop : LsOk Tryz.prog noGl (ixL (iV l) v (ixR l v) (ixR l v) (l.findIdx? (fun z => decide (v = z))).isSome (codeAt Tryz.prog ixF 0)) := specsL_ok fun p hp => by
    obtain rfl := List.mem_singleton.1 hp
    refine loopL_ok fun K hK => ?_
    let Post : Exit → List TV → VT → Prop := fun e vs T => (∃ k : Nat, l.findIdx? (fun z => decide (v = z)) = some k ∧ e = .ret ∧ vs = ixV (iV l) v k k ∧ T = ⟨[], []⟩) ∨ (l.findIdx? (fun z => decide (v = z)) = none ∧ e = .normal ∧ vs = ixV (iV l) v 0 l.length ∧ T = ⟨[], []⟩)
    refine loopK (f := ixF) (id := 0) (by kernel_rfl) 19 ixK (fun j : Nat => l.length - j) (fun j => ixV (iV l) v 0 j) (fun _ => ⟨[], []⟩) (fun j => j ≤ l.length ∧ ∀ k z, k < j → l[k]? = some z → v ≠ z) 0 0 (fun _ _ => ⟨Nat.le_refl _, Nat.le_refl _⟩)
      Post (fun j hj => ?_) 0 ⟨Nat.zero_le _, fun k _ hk => absurd hk (Nat.not_lt_zero k)⟩ K (fun e vs T hq => ?_)
    · obtain ⟨hj, hne⟩ := hj
      by_cases hlt : j < l.length
      · have hs : l[j]? = some l[j] := List.getElem?_eq_getElem hlt
        generalize hzz : l[j] = z at hs
        have hw := wrapN j (by omega)
        refine vx_is mixedB_Tryz bodiesB_Tryz specsOk_none lsOk_none (ev_ixA (iV l) v 0 z j _) ?_
        refine condT (decide_eq_true (by rw [iV_len]; omega)) ⟨opure_in rfl rfl (Int.natCast_nonneg _) (by rw [Int.toNat_natCast]; simp only [iV, List.getElem?_map, hs]; rfl), ?_⟩
        by_cases he : v = z
        · refine condT (by rw [eqI]; exact decide_eq_true he) ⟨rfl, rfl, .inl ⟨j, ?_, rfl, rfl, rfl⟩⟩
          refine List.findIdx?_eq_some_iff_getElem.2 ⟨hlt, by rw [hzz]; exact decide_eq_true he, fun k hk => ?_⟩
          have := hne k _ hk (List.getElem?_eq_getElem (by omega))
          simpa using this
        · refine condF (by rw [eqI]; exact decide_eq_false he) ⟨rfl, rfl, j + 1, ⟨hlt, fun k z' hk hz' => ?_⟩, by simp only; omega, .inr ⟨rfl, ?_⟩⟩
          · rcases Nat.lt_or_ge k j with h | h
            · exact hne k z' h hz'
            · obtain rfl : k = j := by omega
              rw [hs] at hz'; injection hz' with hz'; subst hz'; exact he
          · rw [hw]
            simp only [renL, TV.ren, iV_ren, Tok.ren, ixV]
      · obtain rfl : j = l.length := by omega
        refine vx_is mixedB_Tryz bodiesB_Tryz specsOk_none lsOk_none (ev_ixA (iV l) v 0 0 l.length _) ?_
        refine condF (decide_eq_false (by rw [iV_len]; omega)) ⟨rfl, rfl, .inr ⟨?_, rfl, rfl, rfl⟩⟩
        refine List.findIdx?_eq_none_iff.2 fun z hz => ?_
        obtain ⟨k, hk, rfl⟩ := List.getElem_of_mem hz
        simpa using hne k _ hk (List.getElem?_eq_getElem hk)
    · rcases hq with ⟨k, h1, rfl, rfl, rfl⟩ | ⟨h1, rfl, rfl, rfl⟩
      · simp only [h1, Option.isSome_some, cond_true, ixR] at hK
        exact hK
      · simp only [h1, Option.isSome_none, cond_false, iV_len] at hK
        exact hK
  refine vcallF_is mixedB_Tryz bodiesB_Tryz specsOk_none hloop (ev_ix (iV l) v (ixR l v) (ixR l v) _ _) ⟨rfl, ⟨rfl, rfl, rfl, trivial, rfl, rfl, rfl⟩, ?_⟩
  unfold ixR
  cases h : l.findIdx? (fun z => decide (v = z)) with
  | none => exact condF rfl ⟨rfl, rfl⟩
  | some k => exact condT rfl ⟨rfl, rfl⟩
theorem ixR_0 (l : List Int) : decide (ixR l 0 ≥ 0) = decide (0 ∈ l) := by
 unfold ixR
 cases h : l.findIdx? (fun z => decide (0 = z)) with
 | none =>
  have h1 := List.findIdx?_eq_none_iff.1 h
  have h2 : ¬ (0 : Int) ∈ l := fun hm => by simpa using h1 0 hm
  simp [h2]
 | some k =>
  obtain ⟨hk, h1, _⟩ := List.findIdx?_eq_some_iff_getElem.1 h
  have h2 : (0 : Int) ∈ l := by
   have e : (0 : Int) = l[k] := of_decide_eq_true h1
   rw [e]; exact List.getElem_mem hk
  have h3 : ((k : Nat) : Int) ≥ 0 := by omega
  rw [decide_eq_true h2]; exact decide_eq_true h3
theorem ct_vcx (l : List Int) (hl : l.length ≤ 1000) : VCx Tryz.prog noGl 0 ctF [.vec 1 (iV l) .none, .val (.int .i64 0)] ⟨[], []⟩ fun x T' => x = .val (.bool (has0 (iV l))) ∧ T' = ⟨[], []⟩ := by
 refine vcallF_is mixedB_Tryz bodiesB_Tryz (specs_ok fun p hp => by
  obtain rfl := List.mem_singleton.1 hp
  exact pureAt_ok gvals_noGl (by simp [renL, TV.ren, iV_ren, Tok.ren]) (fun _ _ => rfl) (ix_vcx l hl 0)) lsOk_none (ev_ct (iV l) 0 (ixR l 0) _) ⟨rfl, ?_, rfl⟩
 rw [has0_is, ixR_0]
theorem ctW_ok : ∀ ro ys T K, ctW ro ys T K → VCx Tryz.prog noGl ro ctF ys T K := by
 intro ro ys T K hw
 unfold ctW at hw
 split at hw
 ·rename_i L tok
  obtain ⟨⟨l, rfl, hl⟩, hk⟩ := hw
  exact VCx.loosePure gvals_noGl (ct_vcx l hl) (by simp [looseTV]) (by simp [renL, TV.ren, iV_ren, Tok.ren]) (fun f h => rfl) hk
 ·exact hw.elim
end Go.Proofs.YtogbdjlelkepcaaGreatDoor
namespace Go.Proofs.YtogbdjlelkepcaaGreatDoor
open Go.RowKit

abbrev PrSt := Bs × Int × Int × List Int
theorem pin_round (s0 : PrSt) (h0 : IsB s0.1) (n : Nat) (hn : s0.2.2.2.length + n ≤ 1000) (K : KX)
    (hK : K .normal (slotsN 55 ptKI (ptW (iV (prS n s0).2.2.2) n n)) ⟨[srcO (prS n s0).1 (prS n s0).2.1 (prS n s0).2.2.1], [((iV (prS n s0).2.2.2).length, 1, true)]⟩ []) :
    VWx Tryz.prog noGl none 0 (codeAt Tryz.prog ptF 2) (slotsN 55 ptKI (ptW (iV s0.2.2.2) n 0)) ⟨[srcO s0.1 s0.2.1 s0.2.2.1], [((iV s0.2.2.2).length, 1, true)]⟩ [] K := by
  let sl : Nat × PrSt → List TV := fun s => ptW (iV s.2.2.2.2) n s.1
  let TT : Nat × PrSt → VT := fun s => ⟨[srcO s.2.1 s.2.2.1 s.2.2.2.1], [((iV s.2.2.2.2).length, 1, true)]⟩
  let Post : Exit → List TV → VT → Prop := fun e vs T => e = .normal ∧ vs = ptW (iV (prS n s0).2.2.2) n n ∧ T = ⟨[srcO (prS n s0).1 (prS n s0).2.1 (prS n s0).2.2.1], [((iV (prS n s0).2.2.2).length, 1, true)]⟩
  refine loopK (f := ptF) (id := 2) (by kernel_rfl) 55 ptKI (fun s : Nat × PrSt => n - s.1) sl TT (fun s => s.1 ≤ n ∧ IsB s.2.1 ∧ s.2.2.2.2.length = s0.2.2.2.length + s.1 ∧ prS (n - s.1) s.2 = prS n s0) 1 1 (fun _ _ => ⟨Nat.le_refl _, Nat.le_refl _⟩)
    Post (fun s hs => ?_) (0, s0) ⟨Nat.zero_le _, h0, rfl, rfl⟩ K (fun e vs T ⟨h1, h2, h3⟩ => by subst h1 h2 h3; exact hK)
  obtain ⟨j, b, a, e, l⟩ := s
  obtain ⟨hj, hb, hlen, hgo⟩ := hs
  simp only at hj hb hlen hgo
  have hS : SpecsOk Tryz.prog noGl (specs [(wU16F, snW .i64 2)]) := specs_ok fun p hp => by obtain rfl := List.mem_singleton.1 hp; exact wU16_ok
  refine vx_is mixedB_Tryz bodiesB_Tryz hS lsOk_none (ev_ptI b (iV l) a e n j _) ?_
  by_cases hlt : j < n
  · have hw := wrapN j (by omega)
    refine condT (decide_eq_true (by omega)) ⟨⟨rfl, hb⟩, ?_, rfl, rfl, (j + 1, tkR 2 b e, tkA 2 b e a, tkE 2 b e, l ++ [nmB 2 b e]), ⟨hlt, tkR_is hb, by simp only [List.length_append, List.length_cons, List.length_nil]; omega, ?_⟩, by simp only; omega, .inr ⟨?_, ?_⟩⟩
    · have h := oturn_in (ro := 0) (T := ⟨[srcO (tkR 2 b e) (tkA 2 b e a) (tkE 2 b e)], [((iV l).length, 1, true)]⟩) (T1 := ⟨[srcO (tkR 2 b e) (tkA 2 b e a) (tkE 2 b e)], [((iV l).length, 1, true)]⟩) (s := .tmp 38) (x := .tmp 41) (l := [(38, .vec 1 (iV l) (.tail 0 (iV l).length)), (41, .vec 1 [iT (nmB 2 b e)] .full)]) (es := iV l) (es2 := [iT (nmB 2 b e)]) (k := 0) (n := (iV l).length) (bn := true)
        (by simp [evOf, evFind, vadopt]) rfl (by rw [iV_len]; simp only [List.length_cons, List.length_nil]; omega)
      exact h
    · rw [← hgo, show n - j = (n - (j + 1)) + 1 by omega]; rfl
    · refine (show VT.keep ⟨srcO (tkR 2 b e) (tkA 2 b e a) (tkE 2 b e) :: _, _⟩ 1 1 = _ from ?_)
      simp only [VT.keep, List.take_succ_cons, List.take_zero, List.map_cons, List.map_nil, srcO_ren (tkR_is hb)]
      simp only [TT, iV_app, List.length_append, List.length_cons, List.length_nil]
    · have e2 := iV_ren (Go.Proofs.YtogbdjlelkepcaaGreatDoor.keep 1) (Go.Proofs.YtogbdjlelkepcaaGreatDoor.keep 1) (l ++ [nmB 2 b e])
      rw [iV_app] at e2
      have e3 : renLL (Go.Proofs.YtogbdjlelkepcaaGreatDoor.keep 1) (Go.Proofs.YtogbdjlelkepcaaGreatDoor.keep 1) (iV l ++ [iT (nmB ((2 : Nat)) b e)]) = iV l ++ [iT (nmB 2 b e)] := e2
      rw [hw]
      simp only [renL, TV.ren, e3, Tok.ren]
      simp only [sl, ptW, iV_app, List.length_append, List.length_cons, List.length_nil]
      rfl
  · obtain rfl : j = n := by omega
    rw [Nat.sub_self] at hgo
    refine condF (decide_eq_false (by omega)) ⟨rfl, rfl, rfl, ?_, ?_⟩
    · rw [← hgo]; rfl
    · rw [← hgo]; rfl
def PInv (b0 b : Bs) (e : Int) (l : List Int) : Prop := l.length ≤ 16 ∧ ((e = 0 ∧ ¬ 0 ∈ l ∧ ptGo (b.length + 1) b l = ptP b0) ∨ ((¬ e = 0 ∨ 0 ∈ l) ∧ ptP b0 = none))
def PEnd (b0 : Bs) (L : Bs) (ez : Int) : Prop := ∃ l : List Int, L = iV l ∧ l.length ≤ 16 ∧ ((ez = 0 ∧ ¬ 0 ∈ l ∧ ptP b0 = some l) ∨ ((¬ ez = 0 ∨ 0 ∈ l) ∧ ptP b0 = none))
def ptPost (b0 : Bs) (ex : Exit) (vs : List TV) (T : VT) : Prop :=
 (∃ (L bz : Bs) (az ez : Int), (IsB bz ∧ PEnd b0 L ez) ∧ ex = .normal ∧ vs = ptV L ∧ T = ⟨[srcO bz az ez], [(L.length, 1, true)]⟩) ∨
 (∃ (rest : List VO) (tlz : List (Nat × Nat × Bool)) (Lz : Bs), ptP b0 = none ∧ ex = .ret ∧ vs = ptV Lz ∧ T = ⟨rest, tlz⟩)
theorem ptPost_ok {b0 : Bs} {K : KX} (hK : ptR (PEnd b0) (ptP b0 = none) K) {ex : Exit} {vs : List TV} {T : VT} (h : ptPost b0 ex vs T) : K ex (slotsN 55 ptK vs) T [] := by
 rcases h with ⟨L, bz, az, ez, h1, rfl, rfl, rfl⟩ | ⟨rest, tlz, Lz, h1, rfl, rfl, rfl⟩
 ·exact hK.1 L bz az ez h1
 ·exact hK.2 rest tlz Lz h1
theorem PInv.ret {b0 b : Bs} {l : List Int} (h : PInv b0 b 0 l) (hn : ptGo (b.length + 1) b l = none) : ptP b0 = none := by
 rcases h.2 with ⟨_, _, h3⟩ | ⟨_, h3⟩
 ·rw [← h3]; exact hn
 ·exact h3
theorem PInv.step {b0 b : Bs} {l : List Int} (h : PInv b0 b 0 l) (hl : leB b 0 > 0) (hh : ptH b = true) (h16 : l.length + (ptN b).toNat ≤ 16) (a : Int) : PInv b0 (prS (ptN b).toNat (ptB b, a, 0, l)).1 (prS (ptN b).toNat (ptB b, a, 0, l)).2.2.1 (prS (ptN b).toNat (ptB b, a, 0, l)).2.2.2 := by
  have hln : ∀ (k : Nat) (s : PrSt), (prS k s).2.2.2.length = s.2.2.2.length + k := by
    intro k
    induction k with
    | zero => intro s; rfl
    | succ k ih =>
      rintro ⟨b, a, e, l⟩
      simp only [prS]
      rw [ih]
      simp only [List.length_append, List.length_cons, List.length_nil]; omega
  refine ⟨by rw [hln]; exact h16, ?_⟩
  rcases h.2 with ⟨_, h2, h3⟩ | ⟨h2, h3⟩
  · rcases prS_ok (ptN b).toNat (ptB b) a l h16 with ⟨b', l', g1, g2, g3, g4, g5⟩ | ⟨g1, g2⟩
    · refine .inl ⟨g3, by rw [g4]; exact g5 h2, ?_⟩
      rw [g2, g4, ← ptGo_some hl hh g1]; exact h3
    · exact .inr ⟨g2, by rw [← h3]; exact ptGo_none hl g1⟩
  · refine .inr ⟨.inr ?_, h3⟩
    rcases h2 with h2 | h2
    · exact absurd rfl h2
    · exact prS_nought _ _ h2
theorem pin_loop (s0 : PrSt) (h0 : IsB s0.1) (n : Int) (h1 : 0 ≤ n) (hn : s0.2.2.2.length + n.toNat ≤ 1000) : LsOk Tryz.prog noGl (ptLI s0.1 (prS n.toNat s0).1 (iV s0.2.2.2) (iV (prS n.toNat s0).2.2.2) s0.2.1 s0.2.2.1 (prS n.toNat s0).2.1 (prS n.toNat s0).2.2.1 n (codeAt Tryz.prog ptF 2)) := specsL_ok fun p hp => by
 obtain rfl := List.mem_singleton.1 hp
 refine loopL_ok fun K hK => ?_
 have h := pin_round s0 h0 n.toNat hn K
 rw [show ((n.toNat : Nat) : Int) = n by omega] at h
 exact h hK
end Go.Proofs.YtogbdjlelkepcaaGreatDoor
namespace Go.Proofs.YtogbdjlelkepcaaGreatDoor
open Go.RowKit

theorem keepP {b : Bs} (hb : IsB b) (a e : Int) (k : Nat) : VT.keep ⟨[srcO b a e], [(k, 1, true)]⟩ 1 1 = ⟨[srcO b a e], [(k, 1, true)]⟩ := by
 simp only [VT.keep, List.take_succ_cons, List.take_zero, List.map_cons, List.map_nil, srcO_ren hb]
theorem dgt {l : List Int} {n : Int} (hwr : IntKind.wrap .i64 ((l.length : Int) + n) = (l.length : Int) + n) (h : decide (IntKind.wrap .i64 (((iV l).length : Int) + n) > 16) = true) : (l.length : Int) + n > 16 := by
 rw [iV_len, hwr] at h; exact of_decide_eq_true h
theorem dle {l : List Int} {n : Int} (hwr : IntKind.wrap .i64 ((l.length : Int) + n) = (l.length : Int) + n) (h : decide (IntKind.wrap .i64 (((iV l).length : Int) + n) > 16) = false) : ¬ (l.length : Int) + n > 16 := by
 rw [iV_len, hwr] at h; exact of_decide_eq_false h
theorem pt_round {b0 : Bs} (h0 : IsB b0) (K : KX) (hK : ptR (PEnd b0) (ptP b0 = none) K) : VWx Tryz.prog noGl none 0 (codeAt Tryz.prog ptF 0) (slotsN 55 ptK (ptV [])) ⟨[srcO b0 0 0], [(0, 1, true)]⟩ [] K := by
  let sl : PrSt → List TV := fun s => ptV (iV s.2.2.2)
  let TT : PrSt → VT := fun s => ⟨[srcO s.1 s.2.1 s.2.2.1], [((iV s.2.2.2).length, 1, true)]⟩
  refine loopK (f := ptF) (id := 0) (by kernel_rfl) 55 ptK (fun s : PrSt => s.1.length) sl TT (fun s => IsB s.1 ∧ PInv b0 s.1 s.2.2.1 s.2.2.2) 1 1 (fun _ _ => ⟨Nat.le_refl _, Nat.le_refl _⟩)
    (ptPost b0) (fun s hs => ?_) (b0, 0, 0, []) ⟨h0, ⟨Nat.zero_le _, .inl ⟨rfl, by simp, rfl⟩⟩⟩ K (fun e vs T h => ptPost_ok hK h)
  obtain ⟨b, a, e, l⟩ := s
  obtain ⟨hb, hI⟩ := hs
  simp only at hb hI
  have hS : SpecsOk Tryz.prog noGl (specs [(wLeF, slW), (wU8F, snW .i64 1)]) := specs_ok fun p hp => by
    rcases List.mem_cons.1 hp with rfl | hp; exact wLe_ok
    obtain rfl := List.mem_singleton.1 hp; exact wU8_ok
  by_cases hl : leB b e > 0
  · obtain ⟨rfl, _⟩ := le_pos hl
    let S0 : PrSt := (ptB b, tkA 1 (tkR 1 b 0) (tkE 1 b 0) (tkA 1 b 0 a), ptE b, l)
    have hnb : 0 ≤ ptN b ∧ ptN b < 256 := nm1 (tkR_is hb) _
    have hnb2 : 0 ≤ nmB 1 (tkR 1 b 0) (tkE 1 b 0) ∧ nmB 1 (tkR 1 b 0) (tkE 1 b 0) < 256 := hnb
    have hl16 := hI.1
    have hwr : IntKind.wrap .i64 ((l.length : Int) + ptN b) = (l.length : Int) + ptN b := wrap_id (by omega) (by omega)
    refine vx_is mixedB_Tryz bodiesB_Tryz hS (pin_loop S0 (ptB_is hb) (ptN b) hnb.1 (show l.length + (ptN b).toNat ≤ 1000 by omega)) (ev_ptA b (ptB b) (prS (ptN b).toNat S0).1 (iV l) (iV (prS (ptN b).toNat S0).2.2.2) a 0 (tkA 1 (tkR 1 b 0) (tkE 1 b 0) (tkA 1 b 0 a)) (ptE b) (prS (ptN b).toNat S0).2.1 (prS (ptN b).toNat S0).2.2.1 (ptN b) _) ?_
    refine ⟨⟨rfl, hb⟩, ?_⟩
    refine condT (decide_eq_true hl) ⟨⟨rfl, hb⟩, ⟨rfl, tkR_is hb⟩, ?_⟩
    refine cond_of (fun c1 => ?_) (fun c1 => ?_)
    · refine cond_of (fun c1b => ?_) (fun c1b => ?_)
      · have hH : ptH b = false := by
          unfold ptH ptC
          rw [decide_eq_false (show ¬ nmB 1 b 0 = 1 from neIt c1), decide_eq_false (show ¬ nmB 1 b 0 = 2 from neIt c1b)]; rfl
        exact ⟨rfl, rfl, .inr ⟨_, _, iV l, hI.ret (ptGo_bad hl hH), rfl, rfl, rfl⟩⟩
      · have hC : (decide (ptC b = 1) || decide (ptC b = 2)) = true := by rw [decide_eq_true (show ptC b = 2 from neIf c1b), Bool.or_true]
        refine cond_of (fun c2 => ?_) (fun c2 => ?_)
        · have hH : ptH b = false := by unfold ptH ptN; rw [decide_eq_true (show nmB 1 (tkR 1 b 0) (tkE 1 b 0) = 0 from eqIt c2)]; simp
          exact ⟨rfl, rfl, .inr ⟨_, _, iV l, hI.ret (ptGo_bad hl hH), rfl, rfl, rfl⟩⟩
        have d2 : ¬ ptN b = 0 := eqIf c2
        refine cond_of (fun c3 => ?_) (fun c3 => ?_)
        · have d3 : (l.length : Int) + ptN b > 16 := dgt hwr c3
          exact ⟨rfl, rfl, .inr ⟨_, _, iV l, hI.ret (ptGo_none hl (ptI_over hI.1 (by omega))), rfl, rfl, rfl⟩⟩
        have d3 : ¬ (l.length : Int) + ptN b > 16 := dle hwr c3
        have h16 : l.length + (ptN b).toNat ≤ 16 := by omega
        have hE : ptE b = 0 := nmB_ne d2
        have hH : ptH b = true := by unfold ptH; rw [decide_eq_false d2, hC]; rfl
        have hst := hI.step hl hH h16 (tkA 1 (tkR 1 b 0) (tkE 1 b 0) (tkA 1 b 0 a))
        have hps : prS (ptN b).toNat (ptB b, tkA 1 (tkR 1 b 0) (tkE 1 b 0) (tkA 1 b 0 a), 0, l) = prS (ptN b).toNat S0 := by
          show prS (ptN b).toNat (ptB b, tkA 1 (tkR 1 b 0) (tkE 1 b 0) (tkA 1 b 0 a), 0, l) = prS (ptN b).toNat (ptB b, tkA 1 (tkR 1 b 0) (tkE 1 b 0) (tkA 1 b 0 a), ptE b, l)
          rw [hE]
        rw [hps] at hst
        obtain ⟨i1, i2, _⟩ := prS_is (ptN b).toNat S0 (ptB_is hb)
        have hlt := ptB_lt hl
        refine ⟨rfl, ⟨rfl, rfl, rfl, trivial, rfl, rfl, rfl⟩, rfl, rfl, prS (ptN b).toNat S0, ⟨i1, hst⟩, Nat.lt_of_le_of_lt i2 hlt, .inr ⟨?_, ?_⟩⟩
        · exact keepP i1 _ _ _
        · have e2 := iV_ren (Go.Proofs.YtogbdjlelkepcaaGreatDoor.keep 1) (Go.Proofs.YtogbdjlelkepcaaGreatDoor.keep 1) (prS (ptN b).toNat S0).2.2.2
          simp only [renL, TV.ren, e2, Tok.ren]
          rfl
    · have hC : (decide (ptC b = 1) || decide (ptC b = 2)) = true := by rw [decide_eq_true (show ptC b = 1 from neIf c1), Bool.true_or]
      refine cond_of (fun c2 => ?_) (fun c2 => ?_)
      · have hH : ptH b = false := by unfold ptH ptN; rw [decide_eq_true (show nmB 1 (tkR 1 b 0) (tkE 1 b 0) = 0 from eqIt c2)]; simp
        exact ⟨rfl, rfl, .inr ⟨_, _, iV l, hI.ret (ptGo_bad hl hH), rfl, rfl, rfl⟩⟩
      have d2 : ¬ ptN b = 0 := eqIf c2
      refine cond_of (fun c3 => ?_) (fun c3 => ?_)
      · have d3 : (l.length : Int) + ptN b > 16 := dgt hwr c3
        exact ⟨rfl, rfl, .inr ⟨_, _, iV l, hI.ret (ptGo_none hl (ptI_over hI.1 (by omega))), rfl, rfl, rfl⟩⟩
      have d3 : ¬ (l.length : Int) + ptN b > 16 := dle hwr c3
      have h16 : l.length + (ptN b).toNat ≤ 16 := by omega
      have hE : ptE b = 0 := nmB_ne d2
      have hH : ptH b = true := by unfold ptH; rw [decide_eq_false d2, hC]; rfl
      have hst := hI.step hl hH h16 (tkA 1 (tkR 1 b 0) (tkE 1 b 0) (tkA 1 b 0 a))
      have hps : prS (ptN b).toNat (ptB b, tkA 1 (tkR 1 b 0) (tkE 1 b 0) (tkA 1 b 0 a), 0, l) = prS (ptN b).toNat S0 := by
        show prS (ptN b).toNat (ptB b, tkA 1 (tkR 1 b 0) (tkE 1 b 0) (tkA 1 b 0 a), 0, l) = prS (ptN b).toNat (ptB b, tkA 1 (tkR 1 b 0) (tkE 1 b 0) (tkA 1 b 0 a), ptE b, l)
        rw [hE]
      rw [hps] at hst
      obtain ⟨i1, i2, _⟩ := prS_is (ptN b).toNat S0 (ptB_is hb)
      have hlt := ptB_lt hl
      refine ⟨rfl, ⟨rfl, rfl, rfl, trivial, rfl, rfl, rfl⟩, rfl, rfl, prS (ptN b).toNat S0, ⟨i1, hst⟩, Nat.lt_of_le_of_lt i2 hlt, .inr ⟨?_, ?_⟩⟩
      · exact keepP i1 _ _ _
      · have e2 := iV_ren (Go.Proofs.YtogbdjlelkepcaaGreatDoor.keep 1) (Go.Proofs.YtogbdjlelkepcaaGreatDoor.keep 1) (prS (ptN b).toNat S0).2.2.2
        simp only [renL, TV.ren, e2, Tok.ren]
        rfl
  · refine vx_is mixedB_Tryz bodiesB_Tryz hS (pin_loop (b, a, e, l) hb 0 (Int.le_refl _) (show l.length + 0 ≤ 1000 by have := hI.1; omega)) (ev_ptA b b b (iV l) (iV l) a e a e a e 0 _) ?_
    refine ⟨⟨rfl, hb⟩, condF (decide_eq_false hl) ⟨rfl, rfl, .inl ⟨iV l, b, a, e, ⟨hb, l, rfl, hI.1, ?_⟩, rfl, rfl, rfl⟩⟩⟩
    rcases hI.2 with ⟨rfl, h2, h3⟩ | h
    · exact .inl ⟨rfl, h2, by rw [← h3]; exact ptGo_end hl⟩
    · exact .inr h
theorem pt_loop {b : Bs} (h : IsB b) : LsOk Tryz.prog noGl (ptL b (PEnd b) (ptP b = none) (codeAt Tryz.prog ptF 0)) := specsL_ok fun p hp => by
 obtain rfl := List.mem_singleton.1 hp
 exact loopL_ok fun K hK => pt_round h K hK
theorem pt_bad {b : Bs} (h : ptP b = none) : TVle (.tup [.val (.slice none 0 0), .val (.bool false)]) (ptX b) := by
 unfold ptX ptO ptA
 rw [h]
 exact .tup ⟨.nil 1, .refl _, trivial⟩
theorem pt_good {b : Bs} {l : List Int} (h : ptP b = some l) (tok : Tok) : TVle (.tup [.vec 1 (iV l) tok, .val (.bool true)]) (ptX b) := by
 unfold ptX ptO ptA
 rw [h]
 exact .tup ⟨.vec 1 _ _, .refl _, trivial⟩
theorem pt_vcx {b : Bs} (hb : IsB b) : VCx Tryz.prog noGl 0 ptF [.vec 1 b .none] ⟨[], []⟩ fun x T' => x = ptX b ∧ T' = ⟨[], []⟩ := by
 have hS : SpecsOk Tryz.prog noGl (specs [(wRdF, sreadW), (wErF, seW), (ctF, ctW)]) := specs_ok fun p hp => by
  rcases List.mem_cons.1 hp with rfl | hp; exact wRdW_ok
  rcases List.mem_cons.1 hp with rfl | hp; exact wEr_ok
  obtain rfl := List.mem_singleton.1 hp; exact ctW_ok
 refine VCx.toLe (Q := fun T' => T' = ⟨[], []⟩) (VCx.keepQ 0 0 (Nat.le_refl _) (Nat.le_refl _) (vcallF_is mixedB_Tryz bodiesB_Tryz hS (pt_loop hb) (ev_pt b (PEnd b) (ptP b = none) _) ?_))
 refine ⟨hb, rfl, ⟨rfl, rfl, rfl, ⟨rfl, trivial⟩, rfl, rfl, rfl⟩, ?_, fun rest tlz Lz hN => ⟨pt_bad hN, rfl⟩⟩
 rintro L bz az ez ⟨hbz, l, rfl, h16, hd⟩
 refine ⟨⟨rfl, hbz⟩, ?_⟩
 refine cond_of (fun c1 => ?_) (fun c1 => ?_)
 ·have he := eqIt c1
  refine ⟨⟨l, rfl, by omega⟩, ?_⟩
  rw [has0_is]
  rcases hd with ⟨_, h2, h3⟩ | ⟨h2, h3⟩
  ·rw [decide_eq_false h2]
   refine ⟨?_, rfl⟩
   simp only [TV.ren, renL, iV_ren]
   exact pt_good h3 _
  ·have h4 : (0 : Int) ∈ l := by
    rcases h2 with h2 | h2
    ·exact absurd he h2
    ·exact h2
   rw [decide_eq_true h4]
   exact ⟨pt_bad h3, rfl⟩
 ·have he := eqIf c1
  rcases hd with ⟨h1, _, _⟩ | ⟨_, h3⟩
  ·exact absurd h1 he
  ·exact ⟨pt_bad h3, rfl⟩
end Go.Proofs.YtogbdjlelkepcaaGreatDoor
namespace Go.Proofs.YtogbdjlelkepcaaGreatDoor
open Go.RowKit

end Go.Proofs.YtogbdjlelkepcaaGreatDoor
namespace Go.Proofs.YtogbdjlelkepcaaGreatDoor
open Go.RowKit

abbrev tkaF := 118
abbrev hopF := 162
def g32W : Spec := fun _ ys T K => match ys with
 | [.vec 1 v _, .val (.int .i64 0)] => (IsB v ∧ LeN 4 v) ∧ K (.tup [.val (.int .u32 (geN 4 v)), .val (.bool true)]) T
 | _ => False
def hopB (a : Int) : Bool := eqRes BinOp.neq (keyEq (Value.int IntKind.u32 a) (Value.int IntKind.u32 (0 : Int))) && (eqRes BinOp.neq (keyEq (Value.int IntKind.u32 a) (Value.int IntKind.u32 (4294967295 : Int))) && (eqRes BinOp.neq (keyEq (Value.int IntKind.u32 (Int.fdiv a ((2 : Int) ^ min (Int.toNat (24 : Int)) (IntKind.bits IntKind.u32)))) (Value.int IntKind.u32 (127 : Int))) && eqRes BinOp.neq (keyEq (Value.int IntKind.u32 (Int.fdiv a ((2 : Int) ^ min (Int.toNat (29 : Int)) (IntKind.bits IntKind.u32)))) (Value.int IntKind.u32 (7 : Int)))))
def ptLB (v : Bs) : Bs := iV (ptA v)
def hopW : Spec := fun _ ys T K => match ys with
 | [.val (.int .u32 a)] => K (.val (.bool (hopB a))) T
 | _ => False
def ptWs : Spec := fun _ ys T K => match ys with
 | [.vec 1 v _] => IsB v ∧ K (.tup [.vec 1 (ptLB v) .none, .val (.bool (ptO v))]) T
 | _ => False
def atO (o h m : Int) (hm : Bool) (x : TV) : VO := .cells [.val (.int .i64 o), x, .val (.int .u32 h), .val (.int .i64 m), .val (.bool hm)]
def rawT (fl t : Int) (v : Bs) : TV := .agg [.val (.int .i64 fl), .val (.int .i64 t), .vec 1 v .none]
theorem ev_hop (a : Int) (Q : TV → VT → Prop) : vcallF Tryz.prog noGl noSp noOra 300 noLp 0 hopF [.val (.int .u32 a)] zz151 Q =
 (bif eqRes BinOp.neq (keyEq (Value.int IntKind.u32 a) (Value.int IntKind.u32 (0 : Int)))
 then (bif eqRes BinOp.neq (keyEq (Value.int IntKind.u32 a) (Value.int IntKind.u32 (4294967295 : Int)))
 then (bif eqRes BinOp.neq (keyEq (Value.int IntKind.u32 (Int.fdiv a ((2 : Int) ^ min (Int.toNat (24 : Int)) (IntKind.bits IntKind.u32)))) (Value.int IntKind.u32 (127 : Int)))
 then Q (zz12 (eqRes BinOp.neq (keyEq (Value.int IntKind.u32 (Int.fdiv a ((2 : Int) ^ min (Int.toNat (29 : Int)) (IntKind.bits IntKind.u32)))) (Value.int IntKind.u32 (7 : Int))))) zz151
 else Q zz8 zz151)
 else Q zz8 zz151)
 else Q zz8 zz151) := by kernel_rfl
abbrev zzy8 : VO := (zz124 (.fn (.func 159) [] [(.ptr 2 0)]))
abbrev zzy9 : VO := (zz120 (.fn (.func 158) [] [(.ptr 2 0)]))
abbrev zzy10 : VO := (zz118 (.fn (.func 161) [] [(.ptr 2 0)]))
abbrev zzy11 : VO := (zz123 (.fn (.func 163) [] [(.ptr 2 0)]))
theorem ev_tk0 (o h m fl t : Int) (hm : Bool) (x : TV) (Q : TV → VT → Prop) : vcallF Tryz.prog noGl (specs [(ptF, ptWs), (wG32F, g32W), (hopF, hopW)]) (tellS [(999999, .dead, none)]) 300 noLp 0 tkaF [.ptr 0 0, rawT fl t []] (zz149 (atO o h m hm x)) Q =
 (bif eqRes BinOp.eql (k6 t (1 : Int))
 then (bif eqRes BinOp.neq (k6 (IntKind.wrap IntKind.i64 (↑(BitVec.toNat (BitVec.ofInt (IntKind.bits IntKind.i64) fl &&& ~~~BitVec.ofInt (IntKind.bits IntKind.i64) (16 : Int))) : Int)) (64 : Int))
 then Q zz117 ⟨[(zz106 o x h m hm), (zz34 fl t), zz115, zzy9, zzy9], []⟩
 else Q zz125 ⟨[(zz106 o x h m hm), (zz34 fl t), zz115, zzy9, zzy9], []⟩)
 else (bif eqRes BinOp.eql (k6 t (2 : Int))
 then (bif eqRes BinOp.neq (k6 (IntKind.wrap IntKind.i64 (↑(BitVec.toNat (BitVec.ofInt (IntKind.bits IntKind.i64) fl &&& ~~~BitVec.ofInt (IntKind.bits IntKind.i64) (16 : Int))) : Int)) (64 : Int))
 then Q zz117 ⟨[(zz106 o x h m hm), (zz34 fl t), zz115, zzy8, zzy8], []⟩
 else (IsB [] ∧
 (bif !ptO []
 then Q (.val (.int .i64 11)) ⟨[(zz106 o x h m hm), (zz34 fl t), zz115, zzy8, zzy8], []⟩
 else Q zz6 ⟨[(zz23 o (ptLB []) h m hm), (zz34 fl t), zz115, zzy8, zzy8], []⟩)))
 else (bif eqRes BinOp.eql (k6 t (3 : Int))
 then (bif eqRes BinOp.neq (k6 (IntKind.wrap IntKind.i64 (↑(BitVec.toNat (BitVec.ofInt (IntKind.bits IntKind.i64) fl &&& ~~~BitVec.ofInt (IntKind.bits IntKind.i64) (16 : Int))) : Int)) (64 : Int))
 then Q zz117 ⟨[(zz106 o x h m hm), (zz34 fl t), zz115, zzy10, zzy10], []⟩
 else Q zz125 ⟨[(zz106 o x h m hm), (zz34 fl t), zz115, zzy10, zzy10], []⟩)
 else (bif eqRes BinOp.eql (k6 t (4 : Int))
 then (bif eqRes BinOp.neq (k6 (IntKind.wrap IntKind.i64 (↑(BitVec.toNat (BitVec.ofInt (IntKind.bits IntKind.i64) fl &&& ~~~BitVec.ofInt (IntKind.bits IntKind.i64) (16 : Int))) : Int)) (128 : Int))
 then Q zz117 ⟨[(zz106 o x h m hm), (zz34 fl t), zz115, zzy11, zzy11], []⟩
 else Q zz125 ⟨[(zz106 o x h m hm), (zz34 fl t), zz115, zzy11, zzy11], []⟩)
 else (bif eqRes BinOp.eql (k6 (IntKind.wrap IntKind.i64 (↑(BitVec.toNat (BitVec.ofInt (IntKind.bits IntKind.i64) fl &&& BitVec.ofInt (IntKind.bits IntKind.i64) (128 : Int))) : Int)) (0 : Int))
 then Q zz38 ⟨[(zz106 o x h m hm), (zz34 fl t), zz115, (zz122 (.val .nilFunc)), (zz122 (.val .nilFunc))], []⟩
 else Q zz6 ⟨[(zz106 o x h m hm), (zz34 fl t), zz115, (zz122 (.val .nilFunc)), (zz122 (.val .nilFunc))], []⟩))))) := by kernel_rfl
abbrev zzy12 (fl : Int) (t : Int) (z : Int) (w : Bs) : VO := (zz2 fl t ([[(.val (.int .u8 (z)))]] ++ w))
abbrev zzy13 (z : Int) (x : TV) (h : Int) (m : Int) (hm : Bool) (fl : Int) (t : Int) (w : Bs) : VT := (zz121 (IntKind.wrap IntKind.i64 z) x h m hm fl t ([[(.val (.int .u8 (z)))]] ++ w) (.fn (.func 158) [] [(.ptr 2 0)]) (.fn (.func 158) [] [(.ptr 2 0)]))
abbrev zzy14 (o : Int) (x : TV) (z : Int) (w : Bs) (m : Int) (hm : Bool) (fl : Int) (t : Int) : VT := (zz119 o x (geN (4 : Int) (bT z :: w)) m hm fl t ([[(.val (.int .u8 (z)))]] ++ w) (.fn (.func 161) [] [(.ptr 2 0)]) (.fn (.func 161) [] [(.ptr 2 0)]))
abbrev zzy15 (o : Int) (x : TV) (h : Int) (m : Int) (hm : Bool) (fl : Int) (t : Int) (z : Int) (w : Bs) : VT := (zz121 o x h m hm fl t ([[(.val (.int .u8 (z)))]] ++ w) (.fn (.func 158) [] [(.ptr 2 0)]) (.fn (.func 158) [] [(.ptr 2 0)]))
abbrev zzy16 (o : Int) (x : TV) (h : Int) (m : Int) (hm : Bool) (fl : Int) (t : Int) (z : Int) (w : Bs) : VT := (zz119 o x h m hm fl t ([[(.val (.int .u8 (z)))]] ++ w) (.fn (.func 161) [] [(.ptr 2 0)]) (.fn (.func 161) [] [(.ptr 2 0)]))
theorem ev_tkc (o h m fl t z : Int) (hm : Bool) (x : TV) (w : Bs) (Q : TV → VT → Prop) : vcallF Tryz.prog noGl (specs [(ptF, ptWs), (wG32F, g32W), (hopF, hopW)]) (tellS [(999999, .dead, none)]) 300 noLp 0 tkaF [.ptr 0 0, rawT fl t (bT z :: w)] (zz149 (atO o h m hm x)) Q =
 (bif eqRes BinOp.eql (k6 t (1 : Int))
 then (bif eqRes BinOp.neq (k6 (IntKind.wrap IntKind.i64 (↑(BitVec.toNat (BitVec.ofInt (IntKind.bits IntKind.i64) fl &&& ~~~BitVec.ofInt (IntKind.bits IntKind.i64) (16 : Int))) : Int)) (64 : Int))
 then Q zz117 (zzy15 o x h m hm fl t z w)
 else (bif eqRes BinOp.neq (k6 (↑(List.length (bT z :: w)) : Int) (1 : Int))
 then Q zz125 (zzy15 o x h m hm fl t z w)
 else (bif decide (IntKind.wrap IntKind.i64 z > (2 : Int))
 then Q zz71 (zzy13 z x h m hm fl t w)
 else Q zz6 (zzy13 z x h m hm fl t w))))
 else (bif eqRes BinOp.eql (k6 t (2 : Int))
 then (bif eqRes BinOp.neq (k6 (IntKind.wrap IntKind.i64 (↑(BitVec.toNat (BitVec.ofInt (IntKind.bits IntKind.i64) fl &&& ~~~BitVec.ofInt (IntKind.bits IntKind.i64) (16 : Int))) : Int)) (64 : Int))
 then Q zz117 ⟨[(zz106 o x h m hm), (zzy12 fl t z w), zz115, zzy8, zzy8], []⟩
 else (IsB ([(zz143 z)] ++ w) ∧
 (bif !ptO (bT z :: w)
 then Q (.val (.int .i64 11)) ⟨[(zz106 o x h m hm), (zzy12 fl t z w), zz115, zzy8, zzy8], []⟩
 else Q zz6 ⟨[(zz23 o (ptLB (bT z :: w)) h m hm), (zzy12 fl t z w), zz115, zzy8, zzy8], []⟩)))
 else (bif eqRes BinOp.eql (k6 t (3 : Int))
 then (bif eqRes BinOp.neq (k6 (IntKind.wrap IntKind.i64 (↑(BitVec.toNat (BitVec.ofInt (IntKind.bits IntKind.i64) fl &&& ~~~BitVec.ofInt (IntKind.bits IntKind.i64) (16 : Int))) : Int)) (64 : Int))
 then Q zz117 (zzy16 o x h m hm fl t z w)
 else (bif eqRes BinOp.neq (k6 (↑(List.length (bT z :: w)) : Int) (4 : Int))
 then Q zz125 (zzy16 o x h m hm fl t z w)
 else ((IsB ([(zz143 z)] ++ w) ∧
 LeN 4 ([(zz143 z)] ++ w)) ∧
 (bif !hopB (geN (4 : Int) (bT z :: w))
 then Q (.val (.int .i64 8)) (zzy14 o x z w m hm fl t)
 else Q zz6 (zzy14 o x z w m hm fl t)))))
 else (bif eqRes BinOp.eql (k6 t (4 : Int))
 then (bif eqRes BinOp.neq (k6 (IntKind.wrap IntKind.i64 (↑(BitVec.toNat (BitVec.ofInt (IntKind.bits IntKind.i64) fl &&& ~~~BitVec.ofInt (IntKind.bits IntKind.i64) (16 : Int))) : Int)) (128 : Int))
 then Q zz117 ⟨[(zz106 o x h m hm), (zzy12 fl t z w), zz115, zzy11, zzy11], []⟩
 else (bif eqRes BinOp.neq (k6 (↑(List.length (bT z :: w)) : Int) (4 : Int))
 then Q zz125 ⟨[(zz106 o x h m hm), (zzy12 fl t z w), zz115, zzy11, zzy11], []⟩
 else ((IsB ([(zz143 z)] ++ w) ∧
 LeN 4 ([(zz143 z)] ++ w)) ∧
 Q zz6 ⟨[(.cells [(zz0 o), x, (zz4 h), (zz0 (IntKind.wrap IntKind.i64 (geN (4 : Int) (bT z :: w)))), zz27]), (zzy12 fl t z w), zz115, zzy11, zzy11], []⟩)))
 else (bif eqRes BinOp.eql (k6 (IntKind.wrap IntKind.i64 (↑(BitVec.toNat (BitVec.ofInt (IntKind.bits IntKind.i64) fl &&& BitVec.ofInt (IntKind.bits IntKind.i64) (128 : Int))) : Int)) (0 : Int))
 then Q zz38 ⟨[(zz106 o x h m hm), (zzy12 fl t z w), zz115, (zz122 (.val .nilFunc)), (zz122 (.val .nilFunc))], []⟩
 else Q zz6 ⟨[(zz106 o x h m hm), (zzy12 fl t z w), zz115, (zz122 (.val .nilFunc)), (zz122 (.val .nilFunc))], []⟩))))) := by kernel_rfl
end Go.Proofs.YtogbdjlelkepcaaGreatDoor
namespace Go.Proofs.YtogbdjlelkepcaaGreatDoor
open Go.RowKit

theorem hop_vcx (a : Int) : VCx Tryz.prog noGl 0 hopF [.val (.int .u32 a)] ⟨[], []⟩ fun x T' => x = .val (.bool (hopB a)) ∧ T' = ⟨[], []⟩ := by
 refine vcallF_is mixedB_Tryz bodiesB_Tryz specsOk_none lsOk_none (ev_hop a _) ?_
 unfold hopB
 refine cond_of (fun c1 => ?_) (fun c1 => ?_)
 ·refine cond_of (fun c2 => ?_) (fun c2 => ?_)
  ·refine cond_of (fun c3 => ?_) (fun c3 => ?_)
   ·rw [c1, c2, c3, Bool.true_and, Bool.true_and, Bool.true_and]; exact ⟨rfl, rfl⟩
   ·rw [c1, c2, c3, Bool.true_and, Bool.true_and, Bool.false_and]; exact ⟨rfl, rfl⟩
  ·rw [c1, c2, Bool.true_and, Bool.false_and]; exact ⟨rfl, rfl⟩
 ·rw [c1, Bool.false_and]; exact ⟨rfl, rfl⟩
theorem hopW_ok {f : FuncId} (h : ∀ a, VCx Tryz.prog noGl 0 f [.val (.int .u32 a)] ⟨[], []⟩ fun x T' => x = .val (.bool (hopB a)) ∧ T' = ⟨[], []⟩) : ∀ ro ys T K, hopW ro ys T K → VCx Tryz.prog noGl ro f ys T K := by
 intro ro ys T K hw
 unfold hopW at hw
 split at hw
 ·exact VCx.liftPure gvals_noGl (h _) rfl (fun _ _ => rfl) hw
 ·exact hw.elim
theorem ptX_ren (b : Bs) (f g : Nat → Option Nat) : (ptX b).ren f g = ptX b := by
 simp only [ptX, TV.ren, renL, iV_ren, Tok.ren]
theorem ptWs_ok {f : FuncId} (h : ∀ b, IsB b → VCx Tryz.prog noGl 0 f [.vec 1 b .none] ⟨[], []⟩ fun x T' => x = ptX b ∧ T' = ⟨[], []⟩) : ∀ ro ys T K, ptWs ro ys T K → VCx Tryz.prog noGl ro f ys T K := by
 intro ro ys T K hw
 unfold ptWs at hw
 split at hw
 ·rename_i v tok
  exact VCx.loosePure gvals_noGl (h v hw.1) (by simp [looseTV]) (by simp [renL, TV.ren, hw.1.ren, Tok.ren]) (fun f h => ptX_ren v f h) hw.2
 ·exact hw.elim
theorem g32_vcx {v : Bs} (hv : IsB v) (hl : LeN 4 v) : VCx Tryz.prog noGl 0 wG32F [.vec 1 v .none, .val (.int .i64 0)] ⟨[], []⟩ fun x T' => x = .tup [.val (.int .u32 (geN 4 v)), .val (.bool true)] ∧ T' = ⟨[], []⟩ := by
 have hs := hv.small
 have hl2 : (4 : Int) ≤ v.length := hl
 refine vcallF_is mixedB_Tryz bodiesB_Tryz (specs_ok fun p hp => by obtain rfl := List.mem_singleton.1 hp; exact getW_ok) lsOk_none (ev_wg32 v _) ?_
 rw [wrap_id (z := (v.length : Int) - 4) (by omega) (by omega)]
 have hg : 0 ≤ geN 4 v ∧ geN 4 v < 4294967296 := by
  obtain ⟨⟨l, hl3, hz⟩, _⟩ := hv.take 4
  have hlen : l.length = 4 := by
   have := congrArg List.length hl3
   simp only [bV, List.length_map, List.length_take] at this
   omega
  have h := beB_lt hz
  rw [hlen] at h
  unfold geN
  rw [show (4 : Int).toNat = 4 from rfl, hl3]
  exact ⟨h.1, Int.lt_of_lt_of_le h.2 (by decide)⟩
 have hw : IntKind.wrap .u32 (geN 4 v) = geN 4 v := by
  generalize geN 4 v = y at hg
  simp only [IntKind.wrap, IntKind.bits, IntKind.signed]; simp; omega
 refine condF (by rw [decide_eq_true (show (0 : Int) ≤ (v.length : Int) - 4 by omega)]; rfl) ⟨?_, ⟨hv, ⟨by decide, by decide⟩, hl⟩, by rw [hw], rfl⟩
 have h := opure_blo (x := .tmp 10) (i := .tmp 11) (l := [(10, .vec 1 v .none), (11, .val (.int .i64 0))]) (b := v) (tok := .none) (k := .i64) (z := 0) (n := 0) rfl rfl (Int.le_refl _) rfl (Nat.zero_le _)
 rwa [List.drop_zero] at h
theorem g32W_ok : ∀ ro ys T K, g32W ro ys T K → VCx Tryz.prog noGl ro wG32F ys T K := by
 intro ro ys T K hw
 unfold g32W at hw
 split at hw
 ·rename_i v tok
  obtain ⟨⟨hv, hl⟩, hk⟩ := hw
  exact VCx.loosePure gvals_noGl (g32_vcx hv hl) (by simp [looseTV]) (by simp [renL, TV.ren, hv.ren, Tok.ren]) (fun f h => rfl) hk
 ·exact hw.elim
end Go.Proofs.YtogbdjlelkepcaaGreatDoor
namespace Go.Proofs.YtogbdjlelkepcaaGreatDoor
open Go.RowKit

def fxB (fl : Int) : Int := IntKind.wrap IntKind.i64 (BitVec.toNat (BitVec.ofInt (IntKind.bits IntKind.i64) fl &&& ~~~BitVec.ofInt (IntKind.bits IntKind.i64) (16 : Int)) : Nat)
def opB (fl : Int) : Bool := eqRes BinOp.eql (keyEq (Value.int IntKind.i64 (IntKind.wrap IntKind.i64 (BitVec.toNat (BitVec.ofInt (IntKind.bits IntKind.i64) fl &&& BitVec.ofInt (IntKind.bits IntKind.i64) (128 : Int)) : Nat))) (Value.int IntKind.i64 (0 : Int)))
def tkS (fl t : Int) (v : Bs) : Int :=
 if t = 1 then (if ¬ fxB fl = 64 then 4 else if ¬ (v.length : Int) = 1 then 5 else if geN 1 v > 2 then 6 else 0)
 else if t = 2 then (if ¬ fxB fl = 64 then 4 else bif ptO v then 0 else 11)
 else if t = 3 then (if ¬ fxB fl = 64 then 4 else if ¬ (v.length : Int) = 4 then 5 else bif hopB (geN 4 v) then 0 else 8)
 else if t = 4 then (if ¬ fxB fl = 128 then 4 else if ¬ (v.length : Int) = 4 then 5 else 0)
 else bif opB fl then 2 else 0
def tkO (o h m : Int) (hm : Bool) (x : TV) (t : Int) (v : Bs) : VO :=
 if t = 1 then atO (geN 1 v) h m hm x else if t = 2 then atO o h m hm (.vec 1 (ptLB v) .none) else if t = 3 then atO o (geN 4 v) m hm x else if t = 4 then atO o h (geN 4 v) true x else atO o h m hm x
def TkPost (o h m : Int) (hm : Bool) (x : TV) (fl t : Int) (v : Bs) (y : TV) (T' : VT) : Prop := y = .val (.int .i64 (tkS fl t v)) ∧ ∃ O, T' = ⟨[O], []⟩ ∧ (tkS fl t v = 0 → O = tkO o h m hm x t v)
section
variable {o h m fl t s : Int} {hm : Bool} {x : TV} {v : Bs} {O : VO} {l : List VO}
theorem tk_bad (hs : tkS fl t v = s) (hne : ¬ s = 0) : TkPost o h m hm x fl t v (.val (.int .i64 s)) (VT.keep ⟨O :: l, []⟩ 1 0) := ⟨by rw [hs], _, rfl, fun h => absurd (hs.symm.trans h) hne⟩
theorem tk_good (hs : tkS fl t v = 0) (hO : O = tkO o h m hm x t v) (hr : O.ren (Go.Proofs.YtogbdjlelkepcaaGreatDoor.keep 1) (Go.Proofs.YtogbdjlelkepcaaGreatDoor.keep 0) = O) : TkPost o h m hm x fl t v (.val (.int .i64 0)) (VT.keep ⟨O :: l, []⟩ 1 0) := ⟨by rw [hs], _, rfl, fun _ => by rw [← hO]; exact hr⟩
end
theorem atO_ren {o h m : Int} {hm : Bool} {x : TV} (hx : ∀ f g, x.ren f g = x) (f g : Nat → Option Nat) : (atO o h m hm x).ren f g = atO o h m hm x := by
 simp only [atO, VO.ren, renL, TV.ren, hx]
theorem ptLB_ren (v : Bs) (f g : Nat → Option Nat) : (TV.vec 1 (ptLB v) .none).ren f g = .vec 1 (ptLB v) .none := by
 simp only [TV.ren, ptLB, iV_ren, Tok.ren]
theorem ge4 {v : Bs} (hv : IsB v) (hl : (v.length : Int) = 4) : 0 ≤ geN 4 v ∧ geN 4 v < 4294967296 := by
 obtain ⟨⟨l, hl3, hz⟩, _⟩ := hv.take 4
 have hlen : l.length = 4 := by
  have := congrArg List.length hl3
  simp only [bV, List.length_map, List.length_take] at this
  omega
 have h := beB_lt hz
 rw [hlen] at h
 unfold geN
 rw [show (4 : Int).toNat = 4 from rfl, hl3]
 exact ⟨h.1, Int.lt_of_lt_of_le h.2 (by decide)⟩
theorem ge1 (z : Int) (w : Bs) : geN 1 (bT z :: w) = z := by
 show (0 : Int) * 256 + z = z
 omega
theorem tkaSp : SpecsOk Tryz.prog noGl (specs [(ptF, ptWs), (wG32F, g32W), (hopF, hopW)]) := specs_ok fun p hp => by
 rcases List.mem_cons.1 hp with rfl | hp; exact ptWs_ok fun _ h => pt_vcx h
 rcases List.mem_cons.1 hp with rfl | hp; exact g32W_ok
 obtain rfl := List.mem_singleton.1 hp; exact hopW_ok hop_vcx
theorem tka_vcx (o h m fl t : Int) (hm : Bool) {x : TV} (hx : ∀ f g, x.ren f g = x) {v : Bs} (hv : IsB v) : VCx Tryz.prog noGl 0 tkaF [.ptr 0 0, rawT fl t v] ⟨[atO o h m hm x], []⟩ (TkPost o h m hm x fl t v) := by
 refine VCx.keepQ 1 0 (Nat.le_refl _) (Nat.le_refl _) ?_
 cases v with
 | nil =>
  refine vcallF_is mixedB_Tryz bodiesB_Tryz tkaSp lsOk_none (ev_tk0 o h m fl t hm x _) ?_
  refine cond_of (fun a1 => ?_) (fun a1 => ?_)
  ·replace a1 := eqIt a1
   refine cond_of (fun f1 => ?_) (fun f1 => ?_)
   ·exact tk_bad (by unfold tkS; rw [if_pos a1, if_pos (show ¬ fxB fl = 64 from neIt f1)]) (by decide)
   replace f1 : fxB fl = 64 := neIf f1
   exact tk_bad (by unfold tkS; rw [if_pos a1, if_neg (fun c => c f1), if_pos (by decide)]) (by decide)
  replace a1 := eqIf a1
  refine cond_of (fun a2 => ?_) (fun a2 => ?_)
  ·replace a2 := eqIt a2
   refine cond_of (fun f1 => ?_) (fun f1 => ?_)
   ·exact tk_bad (by unfold tkS; rw [if_neg a1, if_pos a2, if_pos (show ¬ fxB fl = 64 from neIt f1)]) (by decide)
   replace f1 : fxB fl = 64 := neIf f1
   refine ⟨hv, ?_⟩
   cases hh : ptO []
   ·exact tk_bad (by unfold tkS; rw [if_neg a1, if_pos a2, if_neg (fun c => c f1), hh]; rfl) (by decide)
   ·exact tk_good (by unfold tkS; rw [if_neg a1, if_pos a2, if_neg (fun c => c f1), hh]; rfl) (by unfold tkO; rw [if_neg a1, if_pos a2]; rfl) (atO_ren (ptLB_ren _) _ _)
  replace a2 := eqIf a2
  refine cond_of (fun a3 => ?_) (fun a3 => ?_)
  ·replace a3 := eqIt a3
   refine cond_of (fun f1 => ?_) (fun f1 => ?_)
   ·exact tk_bad (by unfold tkS; rw [if_neg a1, if_neg a2, if_pos a3, if_pos (show ¬ fxB fl = 64 from neIt f1)]) (by decide)
   replace f1 : fxB fl = 64 := neIf f1
   exact tk_bad (by unfold tkS; rw [if_neg a1, if_neg a2, if_pos a3, if_neg (fun c => c f1), if_pos (by decide)]) (by decide)
  replace a3 := eqIf a3
  refine cond_of (fun a4 => ?_) (fun a4 => ?_)
  ·replace a4 := eqIt a4
   refine cond_of (fun f1 => ?_) (fun f1 => ?_)
   ·exact tk_bad (by unfold tkS; rw [if_neg a1, if_neg a2, if_neg a3, if_pos a4, if_pos (show ¬ fxB fl = 128 from neIt f1)]) (by decide)
   replace f1 : fxB fl = 128 := neIf f1
   exact tk_bad (by unfold tkS; rw [if_neg a1, if_neg a2, if_neg a3, if_pos a4, if_neg (fun c => c f1), if_pos (by decide)]) (by decide)
  replace a4 := eqIf a4
  refine cond_of (fun a5 => ?_) (fun a5 => ?_)
  ·exact tk_bad (by unfold tkS; rw [if_neg a1, if_neg a2, if_neg a3, if_neg a4, show opB fl = true from a5]; rfl) (by decide)
  ·exact tk_good (by unfold tkS; rw [if_neg a1, if_neg a2, if_neg a3, if_neg a4, show opB fl = false from a5]; rfl) (by unfold tkO; rw [if_neg a1, if_neg a2, if_neg a3, if_neg a4]; rfl) (atO_ren hx _ _)
 | cons r w =>
  obtain ⟨z, rfl, hz0, hz1⟩ := hv.at (j := 0) (r := r) rfl
  refine vcallF_is mixedB_Tryz bodiesB_Tryz tkaSp lsOk_none (ev_tkc o h m fl t z hm x w _) ?_
  refine cond_of (fun a1 => ?_) (fun a1 => ?_)
  ·replace a1 := eqIt a1
   refine cond_of (fun f1 => ?_) (fun f1 => ?_)
   ·exact tk_bad (by unfold tkS; rw [if_pos a1, if_pos (show ¬ fxB fl = 64 from neIt f1)]) (by decide)
   replace f1 : fxB fl = 64 := neIf f1
   refine cond_of (fun b1 => ?_) (fun b1 => ?_)
   ·exact tk_bad (by unfold tkS; rw [if_pos a1, if_neg (fun c => c f1), if_pos (show ¬ (((bT z :: w).length : Nat) : Int) = 1 from neIt b1)]) (by decide)
   have g1 : (((bT z :: w).length : Nat) : Int) = 1 := neIf b1
   have hz : z = geN 1 (bT z :: w) := (ge1 z w).symm
   have hwz : IntKind.wrap .i64 z = z := wrap_id (by omega) (by omega)
   try delta zzy11 zzy12 zzy13 zzy14 zzy15 zzy16 zzy8
   rw [hwz]
   refine cond_of (fun b2 => ?_) (fun b2 => ?_)
   ·exact tk_bad (by unfold tkS; rw [if_pos a1, if_neg (fun c => c f1), if_neg (fun c => c g1), if_pos (by rw [← hz]; exact of_decide_eq_true b2)]) (by decide)
   ·exact tk_good (by unfold tkS; rw [if_pos a1, if_neg (fun c => c f1), if_neg (fun c => c g1), if_neg (by rw [← hz]; exact of_decide_eq_false b2)]) (by unfold tkO; rw [if_pos a1, ← hz]; rfl) (atO_ren hx _ _)
  replace a1 := eqIf a1
  refine cond_of (fun a2 => ?_) (fun a2 => ?_)
  ·replace a2 := eqIt a2
   refine cond_of (fun f1 => ?_) (fun f1 => ?_)
   ·exact tk_bad (by unfold tkS; rw [if_neg a1, if_pos a2, if_pos (show ¬ fxB fl = 64 from neIt f1)]) (by decide)
   replace f1 : fxB fl = 64 := neIf f1
   refine ⟨hv, ?_⟩
   cases hh : ptO (bT z :: w)
   ·exact tk_bad (by unfold tkS; rw [if_neg a1, if_pos a2, if_neg (fun c => c f1), hh]; rfl) (by decide)
   ·exact tk_good (by unfold tkS; rw [if_neg a1, if_pos a2, if_neg (fun c => c f1), hh]; rfl) (by unfold tkO; rw [if_neg a1, if_pos a2]; rfl) (atO_ren (ptLB_ren _) _ _)
  replace a2 := eqIf a2
  refine cond_of (fun a3 => ?_) (fun a3 => ?_)
  ·replace a3 := eqIt a3
   refine cond_of (fun f1 => ?_) (fun f1 => ?_)
   ·exact tk_bad (by unfold tkS; rw [if_neg a1, if_neg a2, if_pos a3, if_pos (show ¬ fxB fl = 64 from neIt f1)]) (by decide)
   replace f1 : fxB fl = 64 := neIf f1
   refine cond_of (fun b1 => ?_) (fun b1 => ?_)
   ·exact tk_bad (by unfold tkS; rw [if_neg a1, if_neg a2, if_pos a3, if_neg (fun c => c f1), if_pos (show ¬ (((bT z :: w).length : Nat) : Int) = 4 from neIt b1)]) (by decide)
   have g1 : (((bT z :: w).length : Nat) : Int) = 4 := neIf b1
   refine ⟨⟨hv, show (4 : Int) ≤ (((bT z :: w).length : Nat) : Int) from by omega⟩, ?_⟩
   cases hh : hopB (geN 4 (bT z :: w))
   ·exact tk_bad (by unfold tkS; rw [if_neg a1, if_neg a2, if_pos a3, if_neg (fun c => c f1), if_neg (fun c => c g1), hh]; rfl) (by decide)
   ·exact tk_good (by unfold tkS; rw [if_neg a1, if_neg a2, if_pos a3, if_neg (fun c => c f1), if_neg (fun c => c g1), hh]; rfl) (by unfold tkO; rw [if_neg a1, if_neg a2, if_pos a3]; rfl) (atO_ren hx _ _)
  replace a3 := eqIf a3
  refine cond_of (fun a4 => ?_) (fun a4 => ?_)
  ·replace a4 := eqIt a4
   refine cond_of (fun f1 => ?_) (fun f1 => ?_)
   ·exact tk_bad (by unfold tkS; rw [if_neg a1, if_neg a2, if_neg a3, if_pos a4, if_pos (show ¬ fxB fl = 128 from neIt f1)]) (by decide)
   replace f1 : fxB fl = 128 := neIf f1
   refine cond_of (fun b1 => ?_) (fun b1 => ?_)
   ·exact tk_bad (by unfold tkS; rw [if_neg a1, if_neg a2, if_neg a3, if_pos a4, if_neg (fun c => c f1), if_pos (show ¬ (((bT z :: w).length : Nat) : Int) = 4 from neIt b1)]) (by decide)
   have g1 : (((bT z :: w).length : Nat) : Int) = 4 := neIf b1
   refine ⟨⟨hv, show (4 : Int) ≤ (((bT z :: w).length : Nat) : Int) from by omega⟩, ?_⟩
   obtain ⟨e1, e2⟩ := ge4 hv g1
   have hw4 : IntKind.wrap .i64 (geN 4 (bT z :: w)) = geN 4 (bT z :: w) := wrap_id (by omega) (by omega)
   rw [hw4]
   exact tk_good (by unfold tkS; rw [if_neg a1, if_neg a2, if_neg a3, if_pos a4, if_neg (fun c => c f1), if_neg (fun c => c g1)]) (by unfold tkO; rw [if_neg a1, if_neg a2, if_neg a3, if_pos a4]; rfl) (atO_ren hx _ _)
  replace a4 := eqIf a4
  refine cond_of (fun a5 => ?_) (fun a5 => ?_)
  ·exact tk_bad (by unfold tkS; rw [if_neg a1, if_neg a2, if_neg a3, if_neg a4, show opB fl = true from a5]; rfl) (by decide)
  ·exact tk_good (by unfold tkS; rw [if_neg a1, if_neg a2, if_neg a3, if_neg a4, show opB fl = false from a5]; rfl) (by unfold tkO; rw [if_neg a1, if_neg a2, if_neg a3, if_neg a4]; rfl) (atO_ren hx _ _)
end Go.Proofs.YtogbdjlelkepcaaGreatDoor
namespace Go.Proofs.YtogbdjlelkepcaaGreatDoor
open Go.RowKit

end Go.Proofs.YtogbdjlelkepcaaGreatDoor
namespace Go.Proofs.YtogbdjlelkepcaaGreatDoor
open Go.RowKit

section
variable {P : Program} {G : Globs}
theorem oturn_appRR {ro : Nat} {T : VT} {t e tx : TypeId} {s x : Operand} {l : List (Nat × TV)} {inf : TypeInfo} {z : Value} {q0 : List TV} {qs : List (List TV)} {tok : Tok} {id n : Nat} {cs : List TV} (ht : P.underlying t = some (.slice e)) (hi : P.info? e = some inf) (hz : inf.zero = some z) (hzs : z.cells.size = inf.size) (hz1 : z.cells.toList.all Value.oneCell' = true)
  (hsl : isSl (P.underlying tx) = true) (hs : evOf G l s = .row inf.size id 0 n) (ho : T.objs[id]? = some (.row cs)) (hro : ro ≤ id) (hn : n * inf.size ≤ cs.length) (hx : evOf G l x = .vec inf.size (q0 :: qs) tok) (hb : (n + (q0 :: qs).length) * (inf.bytes + 1) ≤ 140737488355328) :
  OTurn P G ro T (.call ⟨.builtin .append, #[s, x], #[t, tx]⟩) l (.row inf.size T.objs.length 0 (n + (q0 :: qs).length)) ((T.kill id).newRow (cs.take (n * inf.size) ++ (q0 :: qs).flatten)) := by
 refine .mk ?_
 have h1 : vpure2 P (.call ⟨.builtin .append, #[s, x], #[t, tx]⟩) (evOf G l) = none := by simp [vpure2, vpure]
 have h2 : vread2 P T (.call ⟨.builtin .append, #[s, x], #[t, tx]⟩) (evOf G l) = none := by simp [vread2, vread, vcalls]
 have hr : rowsR T inf.size (.vec inf.size (q0 :: qs) tok) = some (q0 :: qs) := by simp [rowsR, Nat.beq_refl]
 have h4 : vappS P T t tx (.row inf.size id 0 n) (.vec inf.size (q0 :: qs) tok) = none := by simp [vappS, ht]
 have h3 : vappR P ro T t tx (.row inf.size id 0 n) (.vec inf.size (q0 :: qs) tok) = some (.row inf.size T.objs.length 0 (n + (q0 :: qs).length), (T.kill id).newRow (cs.take (n * inf.size) ++ (q0 :: qs).flatten)) := by
  unfold vappR
  simp only [ht, hi, hz, hr, hzs, decide_true, hz1, hsl, Bool.and_self, cond_true, Nat.beq_refl, ho, Nat.ble_eq_true_of_le hro, Nat.ble_eq_true_of_le hn, Nat.ble_eq_true_of_le hb]
 have h5 : vappP P ro T t tx (.row inf.size id 0 n) (.vec inf.size (q0 :: qs) tok) = none := rfl
 simp only [vopA, h1, h2, vmore, hs, hx, hsl, h4, h5, h3, cond_true]
end
end Go.Proofs.YtogbdjlelkepcaaGreatDoor
namespace Go.Proofs.YtogbdjlelkepcaaGreatDoor
open Go.RowKit

abbrev rabF := 119
def growT (W : List TV) (T : VT) : VT := (T.kill (T.objs.length - 1)).newRow ((match T.objs[T.objs.length - 1]? with
 | some (.row cs) => cs
 | _ => []) ++ W)
theorem ev_rab0 (fl t : Int) (Q : TV → VT → Prop) : vcallF Tryz.prog noGl noSp (tellS [(999999, .dead, none)]) 300 noLp 0 rabF [rawT fl t []] ⟨[], []⟩ Q =
 (bif eqRes BinOp.neq (keyEq (Value.int IntKind.i64 (IntKind.wrap IntKind.i64 (↑(BitVec.toNat (BitVec.ofInt (IntKind.bits IntKind.i64) fl &&& BitVec.ofInt (IntKind.bits IntKind.i64) (16 : Int))) : Int))) (Value.int IntKind.i64 (0 : Int)))
 then Q (.row 1 7 0 4) ⟨[(.cells [(.val (.int .i64 (fl))), (.val (.int .i64 (t))), (.vec 1 [] .none)]), .gone, (.row [(.val (.int .u8 (IntKind.wrap IntKind.u8 (Int.fdiv (IntKind.wrap IntKind.u64 fl) ((2 : Int) ^ min (Int.toNat (IntKind.wrap IntKind.i64 ((8 : Int) * IntKind.wrap IntKind.i64 ((1 : Int) - (1 : Int))))) (IntKind.bits IntKind.u64))))))]), .gone, (.row [(.val (.int .u8 (IntKind.wrap IntKind.u8 (Int.fdiv (IntKind.wrap IntKind.u64 fl) ((2 : Int) ^ min (Int.toNat (IntKind.wrap IntKind.i64 ((8 : Int) * IntKind.wrap IntKind.i64 ((1 : Int) - (1 : Int))))) (IntKind.bits IntKind.u64)))))), (.val (.int .u8 (IntKind.wrap IntKind.u8 (Int.fdiv (IntKind.wrap IntKind.u64 t) ((2 : Int) ^ min (Int.toNat (IntKind.wrap IntKind.i64 ((8 : Int) * IntKind.wrap IntKind.i64 ((1 : Int) - (1 : Int))))) (IntKind.bits IntKind.u64))))))]), .gone, .gone, (.row [(.val (.int .u8 (IntKind.wrap IntKind.u8 (Int.fdiv (IntKind.wrap IntKind.u64 fl) ((2 : Int) ^ min (Int.toNat (IntKind.wrap IntKind.i64 ((8 : Int) * IntKind.wrap IntKind.i64 ((1 : Int) - (1 : Int))))) (IntKind.bits IntKind.u64)))))), (.val (.int .u8 (IntKind.wrap IntKind.u8 (Int.fdiv (IntKind.wrap IntKind.u64 t) ((2 : Int) ^ min (Int.toNat (IntKind.wrap IntKind.i64 ((8 : Int) * IntKind.wrap IntKind.i64 ((1 : Int) - (1 : Int))))) (IntKind.bits IntKind.u64)))))), (.val (.int .u8 0)), (.val (.int .u8 0))])], []⟩
 else Q (.row 1 6 0 3) ⟨[(.cells [(.val (.int .i64 (fl))), (.val (.int .i64 (t))), (.vec 1 [] .none)]), .gone, (.row [(.val (.int .u8 (IntKind.wrap IntKind.u8 (Int.fdiv (IntKind.wrap IntKind.u64 fl) ((2 : Int) ^ min (Int.toNat (IntKind.wrap IntKind.i64 ((8 : Int) * IntKind.wrap IntKind.i64 ((1 : Int) - (1 : Int))))) (IntKind.bits IntKind.u64))))))]), .gone, (.row [(.val (.int .u8 (IntKind.wrap IntKind.u8 (Int.fdiv (IntKind.wrap IntKind.u64 fl) ((2 : Int) ^ min (Int.toNat (IntKind.wrap IntKind.i64 ((8 : Int) * IntKind.wrap IntKind.i64 ((1 : Int) - (1 : Int))))) (IntKind.bits IntKind.u64)))))), (.val (.int .u8 (IntKind.wrap IntKind.u8 (Int.fdiv (IntKind.wrap IntKind.u64 t) ((2 : Int) ^ min (Int.toNat (IntKind.wrap IntKind.i64 ((8 : Int) * IntKind.wrap IntKind.i64 ((1 : Int) - (1 : Int))))) (IntKind.bits IntKind.u64))))))]), .gone, (.row [(.val (.int .u8 (IntKind.wrap IntKind.u8 (Int.fdiv (IntKind.wrap IntKind.u64 fl) ((2 : Int) ^ min (Int.toNat (IntKind.wrap IntKind.i64 ((8 : Int) * IntKind.wrap IntKind.i64 ((1 : Int) - (1 : Int))))) (IntKind.bits IntKind.u64)))))), (.val (.int .u8 (IntKind.wrap IntKind.u8 (Int.fdiv (IntKind.wrap IntKind.u64 t) ((2 : Int) ^ min (Int.toNat (IntKind.wrap IntKind.i64 ((8 : Int) * IntKind.wrap IntKind.i64 ((1 : Int) - (1 : Int))))) (IntKind.bits IntKind.u64)))))), (.val (.int .u8 0))])], []⟩) := by kernel_rfl
theorem ev_rab (fl t : Int) (v w : Bs) (W : List TV) (K N : Nat) (Q : TV → VT → Prop) : vcallF Tryz.prog noGl noSp (tellS [(999999, .dead, none), (33, .vec 1 w .none, none), (34, .row 1 K 0 N, some (growT W))]) 300 noLp 0 rabF [rawT fl t v] ⟨[], []⟩ Q =
 (bif eqRes BinOp.neq (keyEq (Value.int IntKind.i64 (IntKind.wrap IntKind.i64 (↑(BitVec.toNat (BitVec.ofInt (IntKind.bits IntKind.i64) fl &&& BitVec.ofInt (IntKind.bits IntKind.i64) (16 : Int))) : Int))) (Value.int IntKind.i64 (0 : Int)))
 then (OPure Tryz.prog (fun _ => .none) (.slice 22 (.tmp 31) .none (.some (.tmp 32)) .none) [(31, (.vec 1 (v) .none)), (32, (.val (.int .i64 (if (65535 : Int) < (↑(List.length v) : Int) then (65535 : Int) else (↑(List.length v) : Int)))))] (.vec 1 (w) .none) ∧
 (OTurn Tryz.prog (fun _ => .none) 0 ⟨[(.cells [(.val (.int .i64 (fl))), (.val (.int .i64 (t))), (.vec 1 (v) .none)]), .gone, (.row [(.val (.int .u8 (IntKind.wrap IntKind.u8 (Int.fdiv (IntKind.wrap IntKind.u64 fl) ((2 : Int) ^ min (Int.toNat (IntKind.wrap IntKind.i64 ((8 : Int) * IntKind.wrap IntKind.i64 ((1 : Int) - (1 : Int))))) (IntKind.bits IntKind.u64))))))]), .gone, (.row [(.val (.int .u8 (IntKind.wrap IntKind.u8 (Int.fdiv (IntKind.wrap IntKind.u64 fl) ((2 : Int) ^ min (Int.toNat (IntKind.wrap IntKind.i64 ((8 : Int) * IntKind.wrap IntKind.i64 ((1 : Int) - (1 : Int))))) (IntKind.bits IntKind.u64)))))), (.val (.int .u8 (IntKind.wrap IntKind.u8 (Int.fdiv (IntKind.wrap IntKind.u64 t) ((2 : Int) ^ min (Int.toNat (IntKind.wrap IntKind.i64 ((8 : Int) * IntKind.wrap IntKind.i64 ((1 : Int) - (1 : Int))))) (IntKind.bits IntKind.u64))))))]), .gone, .gone, (.row [(.val (.int .u8 (IntKind.wrap IntKind.u8 (Int.fdiv (IntKind.wrap IntKind.u64 fl) ((2 : Int) ^ min (Int.toNat (IntKind.wrap IntKind.i64 ((8 : Int) * IntKind.wrap IntKind.i64 ((1 : Int) - (1 : Int))))) (IntKind.bits IntKind.u64)))))), (.val (.int .u8 (IntKind.wrap IntKind.u8 (Int.fdiv (IntKind.wrap IntKind.u64 t) ((2 : Int) ^ min (Int.toNat (IntKind.wrap IntKind.i64 ((8 : Int) * IntKind.wrap IntKind.i64 ((1 : Int) - (1 : Int))))) (IntKind.bits IntKind.u64)))))), (.val (.int .u8 (IntKind.wrap IntKind.u8 (Int.fdiv (IntKind.wrap IntKind.u64 (if (65535 : Int) < (↑(List.length v) : Int) then (65535 : Int) else (↑(List.length v) : Int))) ((2 : Int) ^ min (Int.toNat (IntKind.wrap IntKind.i64 ((8 : Int) * IntKind.wrap IntKind.i64 ((2 : Int) - (1 : Int))))) (IntKind.bits IntKind.u64)))))), (.val (.int .u8 (IntKind.wrap IntKind.u8 (Int.fdiv (IntKind.wrap IntKind.u64 (if (65535 : Int) < (↑(List.length v) : Int) then (65535 : Int) else (↑(List.length v) : Int))) ((2 : Int) ^ min (Int.toNat (IntKind.wrap IntKind.i64 ((8 : Int) * IntKind.wrap IntKind.i64 (IntKind.wrap IntKind.i64 ((2 : Int) - (1 : Int)) - (1 : Int))))) (IntKind.bits IntKind.u64))))))])], []⟩ (.call ⟨(.builtin .append), #[(.tmp 29), (.tmp 33)], #[22, 22]⟩) [(29, (.row 1 7 0 4)), (33, (.vec 1 (w) .none))] (.row 1 (K) 0 (N)) ⟨[(.cells [(.val (.int .i64 (fl))), (.val (.int .i64 (t))), (.vec 1 (v) .none)]), .gone, (.row [(.val (.int .u8 (IntKind.wrap IntKind.u8 (Int.fdiv (IntKind.wrap IntKind.u64 fl) ((2 : Int) ^ min (Int.toNat (IntKind.wrap IntKind.i64 ((8 : Int) * IntKind.wrap IntKind.i64 ((1 : Int) - (1 : Int))))) (IntKind.bits IntKind.u64))))))]), .gone, (.row [(.val (.int .u8 (IntKind.wrap IntKind.u8 (Int.fdiv (IntKind.wrap IntKind.u64 fl) ((2 : Int) ^ min (Int.toNat (IntKind.wrap IntKind.i64 ((8 : Int) * IntKind.wrap IntKind.i64 ((1 : Int) - (1 : Int))))) (IntKind.bits IntKind.u64)))))), (.val (.int .u8 (IntKind.wrap IntKind.u8 (Int.fdiv (IntKind.wrap IntKind.u64 t) ((2 : Int) ^ min (Int.toNat (IntKind.wrap IntKind.i64 ((8 : Int) * IntKind.wrap IntKind.i64 ((1 : Int) - (1 : Int))))) (IntKind.bits IntKind.u64))))))]), .gone, .gone, .gone, (.row ([(.val (.int .u8 (IntKind.wrap IntKind.u8 (Int.fdiv (IntKind.wrap IntKind.u64 fl) ((2 : Int) ^ min (Int.toNat (IntKind.wrap IntKind.i64 ((8 : Int) * IntKind.wrap IntKind.i64 ((1 : Int) - (1 : Int))))) (IntKind.bits IntKind.u64)))))), (.val (.int .u8 (IntKind.wrap IntKind.u8 (Int.fdiv (IntKind.wrap IntKind.u64 t) ((2 : Int) ^ min (Int.toNat (IntKind.wrap IntKind.i64 ((8 : Int) * IntKind.wrap IntKind.i64 ((1 : Int) - (1 : Int))))) (IntKind.bits IntKind.u64)))))), (.val (.int .u8 (IntKind.wrap IntKind.u8 (Int.fdiv (IntKind.wrap IntKind.u64 (if (65535 : Int) < (↑(List.length v) : Int) then (65535 : Int) else (↑(List.length v) : Int))) ((2 : Int) ^ min (Int.toNat (IntKind.wrap IntKind.i64 ((8 : Int) * IntKind.wrap IntKind.i64 ((2 : Int) - (1 : Int))))) (IntKind.bits IntKind.u64)))))), (.val (.int .u8 (IntKind.wrap IntKind.u8 (Int.fdiv (IntKind.wrap IntKind.u64 (if (65535 : Int) < (↑(List.length v) : Int) then (65535 : Int) else (↑(List.length v) : Int))) ((2 : Int) ^ min (Int.toNat (IntKind.wrap IntKind.i64 ((8 : Int) * IntKind.wrap IntKind.i64 (IntKind.wrap IntKind.i64 ((2 : Int) - (1 : Int)) - (1 : Int))))) (IntKind.bits IntKind.u64))))))] ++ W))], []⟩ ∧
 Q (.row 1 (K) 0 (N)) ⟨[(.cells [(.val (.int .i64 (fl))), (.val (.int .i64 (t))), (.vec 1 (v) .none)]), .gone, (.row [(.val (.int .u8 (IntKind.wrap IntKind.u8 (Int.fdiv (IntKind.wrap IntKind.u64 fl) ((2 : Int) ^ min (Int.toNat (IntKind.wrap IntKind.i64 ((8 : Int) * IntKind.wrap IntKind.i64 ((1 : Int) - (1 : Int))))) (IntKind.bits IntKind.u64))))))]), .gone, (.row [(.val (.int .u8 (IntKind.wrap IntKind.u8 (Int.fdiv (IntKind.wrap IntKind.u64 fl) ((2 : Int) ^ min (Int.toNat (IntKind.wrap IntKind.i64 ((8 : Int) * IntKind.wrap IntKind.i64 ((1 : Int) - (1 : Int))))) (IntKind.bits IntKind.u64)))))), (.val (.int .u8 (IntKind.wrap IntKind.u8 (Int.fdiv (IntKind.wrap IntKind.u64 t) ((2 : Int) ^ min (Int.toNat (IntKind.wrap IntKind.i64 ((8 : Int) * IntKind.wrap IntKind.i64 ((1 : Int) - (1 : Int))))) (IntKind.bits IntKind.u64))))))]), .gone, .gone, .gone, (.row ([(.val (.int .u8 (IntKind.wrap IntKind.u8 (Int.fdiv (IntKind.wrap IntKind.u64 fl) ((2 : Int) ^ min (Int.toNat (IntKind.wrap IntKind.i64 ((8 : Int) * IntKind.wrap IntKind.i64 ((1 : Int) - (1 : Int))))) (IntKind.bits IntKind.u64)))))), (.val (.int .u8 (IntKind.wrap IntKind.u8 (Int.fdiv (IntKind.wrap IntKind.u64 t) ((2 : Int) ^ min (Int.toNat (IntKind.wrap IntKind.i64 ((8 : Int) * IntKind.wrap IntKind.i64 ((1 : Int) - (1 : Int))))) (IntKind.bits IntKind.u64)))))), (.val (.int .u8 (IntKind.wrap IntKind.u8 (Int.fdiv (IntKind.wrap IntKind.u64 (if (65535 : Int) < (↑(List.length v) : Int) then (65535 : Int) else (↑(List.length v) : Int))) ((2 : Int) ^ min (Int.toNat (IntKind.wrap IntKind.i64 ((8 : Int) * IntKind.wrap IntKind.i64 ((2 : Int) - (1 : Int))))) (IntKind.bits IntKind.u64)))))), (.val (.int .u8 (IntKind.wrap IntKind.u8 (Int.fdiv (IntKind.wrap IntKind.u64 (if (65535 : Int) < (↑(List.length v) : Int) then (65535 : Int) else (↑(List.length v) : Int))) ((2 : Int) ^ min (Int.toNat (IntKind.wrap IntKind.i64 ((8 : Int) * IntKind.wrap IntKind.i64 (IntKind.wrap IntKind.i64 ((2 : Int) - (1 : Int)) - (1 : Int))))) (IntKind.bits IntKind.u64))))))] ++ W))], []⟩))
 else (OPure Tryz.prog (fun _ => .none) (.slice 22 (.tmp 31) .none (.some (.tmp 32)) .none) [(31, (.vec 1 (v) .none)), (32, (.val (.int .i64 (if (255 : Int) < (↑(List.length v) : Int) then (255 : Int) else (↑(List.length v) : Int)))))] (.vec 1 (w) .none) ∧
 (OTurn Tryz.prog (fun _ => .none) 0 ⟨[(.cells [(.val (.int .i64 (fl))), (.val (.int .i64 (t))), (.vec 1 (v) .none)]), .gone, (.row [(.val (.int .u8 (IntKind.wrap IntKind.u8 (Int.fdiv (IntKind.wrap IntKind.u64 fl) ((2 : Int) ^ min (Int.toNat (IntKind.wrap IntKind.i64 ((8 : Int) * IntKind.wrap IntKind.i64 ((1 : Int) - (1 : Int))))) (IntKind.bits IntKind.u64))))))]), .gone, (.row [(.val (.int .u8 (IntKind.wrap IntKind.u8 (Int.fdiv (IntKind.wrap IntKind.u64 fl) ((2 : Int) ^ min (Int.toNat (IntKind.wrap IntKind.i64 ((8 : Int) * IntKind.wrap IntKind.i64 ((1 : Int) - (1 : Int))))) (IntKind.bits IntKind.u64)))))), (.val (.int .u8 (IntKind.wrap IntKind.u8 (Int.fdiv (IntKind.wrap IntKind.u64 t) ((2 : Int) ^ min (Int.toNat (IntKind.wrap IntKind.i64 ((8 : Int) * IntKind.wrap IntKind.i64 ((1 : Int) - (1 : Int))))) (IntKind.bits IntKind.u64))))))]), .gone, (.row [(.val (.int .u8 (IntKind.wrap IntKind.u8 (Int.fdiv (IntKind.wrap IntKind.u64 fl) ((2 : Int) ^ min (Int.toNat (IntKind.wrap IntKind.i64 ((8 : Int) * IntKind.wrap IntKind.i64 ((1 : Int) - (1 : Int))))) (IntKind.bits IntKind.u64)))))), (.val (.int .u8 (IntKind.wrap IntKind.u8 (Int.fdiv (IntKind.wrap IntKind.u64 t) ((2 : Int) ^ min (Int.toNat (IntKind.wrap IntKind.i64 ((8 : Int) * IntKind.wrap IntKind.i64 ((1 : Int) - (1 : Int))))) (IntKind.bits IntKind.u64)))))), (.val (.int .u8 (IntKind.wrap IntKind.u8 (Int.fdiv (IntKind.wrap IntKind.u64 (if (255 : Int) < (↑(List.length v) : Int) then (255 : Int) else (↑(List.length v) : Int))) ((2 : Int) ^ min (Int.toNat (IntKind.wrap IntKind.i64 ((8 : Int) * IntKind.wrap IntKind.i64 ((1 : Int) - (1 : Int))))) (IntKind.bits IntKind.u64))))))])], []⟩ (.call ⟨(.builtin .append), #[(.tmp 29), (.tmp 33)], #[22, 22]⟩) [(29, (.row 1 6 0 3)), (33, (.vec 1 (w) .none))] (.row 1 (K) 0 (N)) ⟨[(.cells [(.val (.int .i64 (fl))), (.val (.int .i64 (t))), (.vec 1 (v) .none)]), .gone, (.row [(.val (.int .u8 (IntKind.wrap IntKind.u8 (Int.fdiv (IntKind.wrap IntKind.u64 fl) ((2 : Int) ^ min (Int.toNat (IntKind.wrap IntKind.i64 ((8 : Int) * IntKind.wrap IntKind.i64 ((1 : Int) - (1 : Int))))) (IntKind.bits IntKind.u64))))))]), .gone, (.row [(.val (.int .u8 (IntKind.wrap IntKind.u8 (Int.fdiv (IntKind.wrap IntKind.u64 fl) ((2 : Int) ^ min (Int.toNat (IntKind.wrap IntKind.i64 ((8 : Int) * IntKind.wrap IntKind.i64 ((1 : Int) - (1 : Int))))) (IntKind.bits IntKind.u64)))))), (.val (.int .u8 (IntKind.wrap IntKind.u8 (Int.fdiv (IntKind.wrap IntKind.u64 t) ((2 : Int) ^ min (Int.toNat (IntKind.wrap IntKind.i64 ((8 : Int) * IntKind.wrap IntKind.i64 ((1 : Int) - (1 : Int))))) (IntKind.bits IntKind.u64))))))]), .gone, .gone, (.row ([(.val (.int .u8 (IntKind.wrap IntKind.u8 (Int.fdiv (IntKind.wrap IntKind.u64 fl) ((2 : Int) ^ min (Int.toNat (IntKind.wrap IntKind.i64 ((8 : Int) * IntKind.wrap IntKind.i64 ((1 : Int) - (1 : Int))))) (IntKind.bits IntKind.u64)))))), (.val (.int .u8 (IntKind.wrap IntKind.u8 (Int.fdiv (IntKind.wrap IntKind.u64 t) ((2 : Int) ^ min (Int.toNat (IntKind.wrap IntKind.i64 ((8 : Int) * IntKind.wrap IntKind.i64 ((1 : Int) - (1 : Int))))) (IntKind.bits IntKind.u64)))))), (.val (.int .u8 (IntKind.wrap IntKind.u8 (Int.fdiv (IntKind.wrap IntKind.u64 (if (255 : Int) < (↑(List.length v) : Int) then (255 : Int) else (↑(List.length v) : Int))) ((2 : Int) ^ min (Int.toNat (IntKind.wrap IntKind.i64 ((8 : Int) * IntKind.wrap IntKind.i64 ((1 : Int) - (1 : Int))))) (IntKind.bits IntKind.u64))))))] ++ W))], []⟩ ∧
 Q (.row 1 (K) 0 (N)) ⟨[(.cells [(.val (.int .i64 (fl))), (.val (.int .i64 (t))), (.vec 1 (v) .none)]), .gone, (.row [(.val (.int .u8 (IntKind.wrap IntKind.u8 (Int.fdiv (IntKind.wrap IntKind.u64 fl) ((2 : Int) ^ min (Int.toNat (IntKind.wrap IntKind.i64 ((8 : Int) * IntKind.wrap IntKind.i64 ((1 : Int) - (1 : Int))))) (IntKind.bits IntKind.u64))))))]), .gone, (.row [(.val (.int .u8 (IntKind.wrap IntKind.u8 (Int.fdiv (IntKind.wrap IntKind.u64 fl) ((2 : Int) ^ min (Int.toNat (IntKind.wrap IntKind.i64 ((8 : Int) * IntKind.wrap IntKind.i64 ((1 : Int) - (1 : Int))))) (IntKind.bits IntKind.u64)))))), (.val (.int .u8 (IntKind.wrap IntKind.u8 (Int.fdiv (IntKind.wrap IntKind.u64 t) ((2 : Int) ^ min (Int.toNat (IntKind.wrap IntKind.i64 ((8 : Int) * IntKind.wrap IntKind.i64 ((1 : Int) - (1 : Int))))) (IntKind.bits IntKind.u64))))))]), .gone, .gone, (.row ([(.val (.int .u8 (IntKind.wrap IntKind.u8 (Int.fdiv (IntKind.wrap IntKind.u64 fl) ((2 : Int) ^ min (Int.toNat (IntKind.wrap IntKind.i64 ((8 : Int) * IntKind.wrap IntKind.i64 ((1 : Int) - (1 : Int))))) (IntKind.bits IntKind.u64)))))), (.val (.int .u8 (IntKind.wrap IntKind.u8 (Int.fdiv (IntKind.wrap IntKind.u64 t) ((2 : Int) ^ min (Int.toNat (IntKind.wrap IntKind.i64 ((8 : Int) * IntKind.wrap IntKind.i64 ((1 : Int) - (1 : Int))))) (IntKind.bits IntKind.u64)))))), (.val (.int .u8 (IntKind.wrap IntKind.u8 (Int.fdiv (IntKind.wrap IntKind.u64 (if (255 : Int) < (↑(List.length v) : Int) then (255 : Int) else (↑(List.length v) : Int))) ((2 : Int) ^ min (Int.toNat (IntKind.wrap IntKind.i64 ((8 : Int) * IntKind.wrap IntKind.i64 ((1 : Int) - (1 : Int))))) (IntKind.bits IntKind.u64))))))] ++ W))], []⟩))) := by kernel_rfl
end Go.Proofs.YtogbdjlelkepcaaGreatDoor
namespace Go.Proofs.YtogbdjlelkepcaaGreatDoor
open Go.RowKit

def bz (z : Int) (m : Nat) : Int := IntKind.wrap .u8 (Int.fdiv (IntKind.wrap .u64 z) ((2 : Int) ^ m))
def rbM (fl : Int) (v : Bs) : Int := bif exF fl then (if (65535 : Int) < (v.length : Int) then 65535 else v.length) else (if (255 : Int) < (v.length : Int) then 255 else v.length)
def rbP (fl t n : Int) : Bs := bif exF fl then [bT (bz fl 0), bT (bz t 0), bT (bz n 8), bT (bz n 0)] else [bT (bz fl 0), bT (bz t 0), bT (bz n 0)]
def rbB (fl t : Int) (v : Bs) : Bs := rbP fl t (rbM fl v) ++ v.take (rbM fl v).toNat
theorem wrap8 (z : Int) : 0 ≤ IntKind.wrap .u8 z ∧ IntKind.wrap .u8 z < 256 := by
 simp only [IntKind.wrap, IntKind.bits, IntKind.signed]; simp; omega
theorem bz_lt (z : Int) (m : Nat) : 0 ≤ bz z m ∧ bz z m < 256 := wrap8 _
theorem rbM_le (fl : Int) (v : Bs) : 0 ≤ rbM fl v ∧ (rbM fl v).toNat ≤ v.length := by
 unfold rbM
 cases exF fl <;> simp only [cond_true, cond_false] <;> split <;> omega
theorem rbB_is {fl t : Int} {v : Bs} (hv : IsB v) (hl : v.length ≤ 900000) : IsB (rbB fl t v) := by
  obtain ⟨⟨l, hl2, hz⟩, _⟩ := hv.take (rbM fl v).toNat
  have h1 : (v.take (rbM fl v).toNat).length ≤ v.length := by rw [List.length_take]; omega
  unfold rbB rbP
  rw [hl2] at h1 ⊢
  cases exF fl
  · refine ⟨⟨bz fl 0 :: bz t 0 :: bz (rbM fl v) 0 :: l, rfl, fun z hm => ?_⟩, ?_⟩
    · rcases List.mem_cons.1 hm with rfl | hm; exact bz_lt _ _
      rcases List.mem_cons.1 hm with rfl | hm; exact bz_lt _ _
      rcases List.mem_cons.1 hm with rfl | hm; exact bz_lt _ _
      exact hz z hm
    · simp only [cond_false, List.length_append, List.length_cons, List.length_nil]; omega
  · refine ⟨⟨bz fl 0 :: bz t 0 :: bz (rbM fl v) 8 :: bz (rbM fl v) 0 :: l, rfl, fun z hm => ?_⟩, ?_⟩
    · rcases List.mem_cons.1 hm with rfl | hm; exact bz_lt _ _
      rcases List.mem_cons.1 hm with rfl | hm; exact bz_lt _ _
      rcases List.mem_cons.1 hm with rfl | hm; exact bz_lt _ _
      rcases List.mem_cons.1 hm with rfl | hm; exact bz_lt _ _
      exact hz z hm
    · simp only [cond_true, List.length_append, List.length_cons, List.length_nil]; omega
theorem VCx.rowB {f : FuncId} {xs : List TV} {es : Bs} (hes : IsB es) (h : VCx Tryz.prog noGl 0 f xs ⟨[], []⟩ fun x T' => ∃ id off n, x = .row 1 id off n ∧ rowsR T' 1 (.row 1 id off n) = some es) : VCx Tryz.prog noGl 0 f xs ⟨[], []⟩ fun x T' => x = .vec 1 es .none ∧ T' = ⟨[], []⟩ := by
 refine VCx.keepQ 0 0 (Nat.le_refl _) (Nat.le_refl _) ((VCx.freeze (size := 1) (es := es) (Q := fun _ => True) (h.mono fun x T' ⟨id, off, n, h1, h2⟩ => ⟨id, off, n, h1, h2, trivial⟩)).mono ?_)
 rintro x T' ⟨rfl, _⟩
 exact ⟨by simp only [TV.ren, hes.ren, Tok.ren], rfl⟩
theorem rab0_vcx (fl t : Int) : VCx Tryz.prog noGl 0 rabF [rawT fl t []] ⟨[], []⟩ fun x T' => x = .vec 1 (rbB fl t []) .none ∧ T' = ⟨[], []⟩ := by
 refine VCx.rowB (rbB_is .nil (by simp)) (vcallF_is mixedB_Tryz bodiesB_Tryz specsOk_none lsOk_none (ev_rab0 fl t _) ?_)
 refine cond_of (fun hx => ⟨7, 0, 4, rfl, ?_⟩) (fun hx => ⟨6, 0, 3, rfl, ?_⟩)
 ·have e : rbB fl t [] = [bT (bz fl 0), bT (bz t 0), bT (bz 0 8), bT (bz 0 0)] := by
   unfold rbB rbP rbM; rw [show exF fl = true from hx]; rfl
  rw [e]
  exact rowsR_flat (es := [bT (bz fl 0), bT (bz t 0), bT (bz 0 8), bT (bz 0 0)]) (by kernel_rfl) (by intro e he; simp only [List.mem_cons, List.not_mem_nil, or_false] at he; rcases he with rfl | rfl | rfl | rfl <;> rfl)
 ·have e : rbB fl t [] = [bT (bz fl 0), bT (bz t 0), bT (bz 0 0)] := by
   unfold rbB rbP rbM; rw [show exF fl = false from hx]; rfl
  rw [e]
  exact rowsR_flat (es := [bT (bz fl 0), bT (bz t 0), bT (bz 0 0)]) (by kernel_rfl) (by intro e he; simp only [List.mem_cons, List.not_mem_nil, or_false] at he; rcases he with rfl | rfl | rfl <;> rfl)
theorem oturn_bR {T T' : VT} {s x : Operand} {l : List (Nat × TV)} {q0 : List TV} {qs : Bs} {tok : Tok} {id n : Nat} {cs : List TV} {y : TV} (hs : evOf noGl l s = .row 1 id 0 n) (ho : T.objs[id]? = some (.row cs)) (hn : n ≤ cs.length) (hx : evOf noGl l x = .vec 1 (q0 :: qs) tok) (hb : n + (q0 :: qs).length ≤ 2000001)
  (hy : TV.row 1 T.objs.length 0 (n + (q0 :: qs).length) = y) (hT : (T.kill id).newRow (cs.take n ++ (q0 :: qs).flatten) = T') : OTurn Tryz.prog noGl 0 T (.call ⟨.builtin .append, #[s, x], #[22, 22]⟩) l y T' := by
 obtain ⟨inf, i1, i2, i3, i4⟩ := u8Inf_ex
 have h := oturn_appRR (inf := inf) (P := Tryz.prog) (G := noGl) (ro := 0) (T := T) (t := 22) (tx := 22) (s := s) (x := x) (l := l) (q0 := q0) (qs := qs) (tok := tok) (id := id) (n := n) (cs := cs) Tryz.underlying22 i1 i4 (by rw [i2]; rfl) (by rfl) (by kernel_rfl) (by rw [i2]; exact hs) ho (Nat.zero_le _) (by rw [i2]; omega) (by rw [i2]; exact hx) (by rw [i3]; omega)
 rw [i2, Nat.mul_one, hy, hT] at h
 exact h
theorem rbM_pos {fl : Int} {r : List TV} {v : Bs} : 0 < (rbM fl (r :: v)).toNat := by
 unfold rbM
 cases exF fl <;> simp only [cond_true, cond_false, List.length_cons] <;> split <;> omega
theorem rab_vcx (fl t : Int) {r : List TV} {v : Bs} (hv : IsB (r :: v)) (hl : (r :: v).length ≤ 900000) : VCx Tryz.prog noGl 0 rabF [rawT fl t (r :: v)] ⟨[], []⟩ fun x T' => x = .vec 1 (rbB fl t (r :: v)) .none ∧ T' = ⟨[], []⟩ := by
  obtain ⟨h0, h1⟩ := rbM_le fl (r :: v)
  have hp := rbM_pos (fl := fl) (r := r) (v := v)
  obtain ⟨qs, hqs⟩ : ∃ qs, (r :: v).take (rbM fl (r :: v)).toNat = r :: qs := by
    obtain ⟨k, hk⟩ : ∃ k, (rbM fl (r :: v)).toNat = k + 1 := ⟨_, (Nat.succ_pred_eq_of_pos hp).symm⟩
    exact ⟨v.take k, by rw [hk]; rfl⟩
  have hql : (r :: qs).length ≤ 900000 := by
    rw [← hqs, List.length_take]; omega
  have hq1 : ∀ e ∈ r :: qs, e.length = 1 := by
    rw [← hqs]; exact (hv.take _).len1
  refine VCx.rowB (rbB_is hv hl) (vcallF_is mixedB_Tryz bodiesB_Tryz specsOk_none lsOk_none (ev_rab fl t (r :: v) (r :: qs) (r :: qs).flatten (bif exF fl then 8 else 7) ((r :: qs).length + (bif exF fl then 4 else 3)) _) ?_)
  refine cond_of (fun hx => ?_) (fun hx => ?_)
  · have hx2 : exF fl = true := hx
    have hM : rbM fl (r :: v) = (if (65535 : Int) < ((r :: v).length : Int) then 65535 else ((r :: v).length : Int)) := by unfold rbM; rw [hx2]; rfl
    rw [hx2, ← hM]
    refine ⟨?_, oturn_bR (id := 7) (n := 4) (tok := .none) rfl rfl (Nat.le_refl 4) rfl (by omega) (by rw [Nat.add_comm 4]; rfl) rfl, 8, 0, (r :: qs).length + 4, rfl, ?_⟩
    · have h := opure_bhi (x := .tmp 31) (i := .tmp 32) (l := [(31, .vec 1 (r :: v) .none), (32, .val (.int .i64 (rbM fl (r :: v))))]) (b := r :: v) (tok := .none) (k := .i64) (z := rbM fl (r :: v)) rfl rfl h0 rfl h1
      rwa [hqs] at h
    · have e : rbB fl t (r :: v) = [bT (bz fl 0), bT (bz t 0), bT (bz (rbM fl (r :: v)) 8), bT (bz (rbM fl (r :: v)) 0)] ++ (r :: qs) := by unfold rbB rbP; rw [hx2, hqs]; rfl
      rw [e]
      exact rowsR_flat (es := [bT (bz fl 0), bT (bz t 0), bT (bz (rbM fl (r :: v)) 8), bT (bz (rbM fl (r :: v)) 0)] ++ (r :: qs)) rfl (fun e he => by
        rcases List.mem_append.1 he with h | h
        · simp only [List.mem_cons, List.not_mem_nil, or_false] at h; rcases h with rfl | rfl | rfl | rfl <;> rfl
        · exact hq1 e h)
  · have hx2 : exF fl = false := hx
    have hM : rbM fl (r :: v) = (if (255 : Int) < ((r :: v).length : Int) then 255 else ((r :: v).length : Int)) := by unfold rbM; rw [hx2]; rfl
    rw [hx2, ← hM]
    refine ⟨?_, oturn_bR (id := 6) (n := 3) (tok := .none) rfl rfl (Nat.le_refl 3) rfl (by omega) (by rw [Nat.add_comm 3]; rfl) rfl, 7, 0, (r :: qs).length + 3, rfl, ?_⟩
    · have h := opure_bhi (x := .tmp 31) (i := .tmp 32) (l := [(31, .vec 1 (r :: v) .none), (32, .val (.int .i64 (rbM fl (r :: v))))]) (b := r :: v) (tok := .none) (k := .i64) (z := rbM fl (r :: v)) rfl rfl h0 rfl h1
      rwa [hqs] at h
    · have e : rbB fl t (r :: v) = [bT (bz fl 0), bT (bz t 0), bT (bz (rbM fl (r :: v)) 0)] ++ (r :: qs) := by unfold rbB rbP; rw [hx2, hqs]; rfl
      rw [e]
      exact rowsR_flat (es := [bT (bz fl 0), bT (bz t 0), bT (bz (rbM fl (r :: v)) 0)] ++ (r :: qs)) rfl (fun e he => by
        rcases List.mem_append.1 he with h | h
        · simp only [List.mem_cons, List.not_mem_nil, or_false] at h; rcases h with rfl | rfl | rfl <;> rfl
        · exact hq1 e h)
end Go.Proofs.YtogbdjlelkepcaaGreatDoor
namespace Go.Proofs.YtogbdjlelkepcaaGreatDoor
open Go.RowKit

end Go.Proofs.YtogbdjlelkepcaaGreatDoor
namespace Go.Proofs.YtogbdjlelkepcaaGreatDoor
open Go.RowKit

def AtOk (x : TV) : Prop := ∀ f g, x.ren f g = x
def TkEq (o h m : Int) (hm : Bool) (x : TV) (t : Int) (v : Bs) (O : VO) : Prop := O = tkO o h m hm x t v
def DzOk (dz : TV) (d : Bs) : Prop := (dz = .val (.slice none 0 0) ∧ d = []) ∨ (dz = .vec 1 d .none ∧ IsB d)
theorem DzOk.le {dz : TV} {d : Bs} (h : DzOk dz d) (f g : Nat → Option Nat) : TVle (dz.ren f g) (.vec 1 d .none) := by
 rcases h with ⟨rfl, rfl⟩ | ⟨rfl, hd⟩
 ·exact .nil 1
 ·simp only [TV.ren, hd.ren, Tok.ren]; exact .refl _
theorem DzOk.nil : DzOk (.val (.slice none 0 0)) [] := .inl ⟨rfl, rfl⟩
def RbOk (fl t : Int) (v : Bs) : Prop := (0 ≤ fl ∧ fl < 256) ∧ (0 ≤ t ∧ t < 256) ∧ IsB v ∧ v.length ≤ 900000
structure AtS where
 o : Int
 h : Int
 m : Int
 hm : Bool
 x : TV
def AtS.vo (a : AtS) : VO := atO a.o a.h a.m a.hm a.x
def AtS.tv (a : AtS) : TV := .agg [.val (.int .i64 a.o), a.x, .val (.int .u32 a.h), .val (.int .i64 a.m), .val (.bool a.hm)]
def at0 : AtS := ⟨0, 0, 0, false, .val (.slice none 0 0)⟩
def AtS.put (a : AtS) (t : Int) (v : Bs) : AtS :=
 if t = 1 then { a with o := geN 1 v } else if t = 2 then { a with x := .vec 1 (ptLB v) .none } else if t = 3 then { a with h := geN 4 v } else if t = 4 then { a with m := geN 4 v, hm := true } else a
theorem tkO_put (a : AtS) (t : Int) (v : Bs) : tkO a.o a.h a.m a.hm a.x t v = (a.put t v).vo := by
 unfold tkO AtS.put AtS.vo
 split
 ·rfl
 split
 ·rfl
 split
 ·rfl
 split <;> rfl
def AtS.Ok (a : AtS) : Prop := a.x = .val (.slice none 0 0) ∨ ∃ l : List Int, a.x = .vec 1 (iV l) .none
theorem AtS.Ok.ren {a : AtS} (h : a.Ok) (f g : Nat → Option Nat) : a.x.ren f g = a.x := by
 rcases h with h | ⟨l, h⟩ <;> rw [h]
 ·rfl
 ·simp only [TV.ren, iV_ren, Tok.ren]
theorem at0_ok : at0.Ok := .inl rfl
theorem AtS.Ok.put {a : AtS} (h : a.Ok) (t : Int) (v : Bs) : (a.put t v).Ok := by
 unfold AtS.put
 split
 ·exact h
 split
 ·exact .inr ⟨_, rfl⟩
 split
 ·exact h
 split
 ·exact h
 ·exact h
theorem AtS.Ok.vo_ren {a : AtS} (h : a.Ok) (f g : Nat → Option Nat) : a.vo.ren f g = a.vo := atO_ren h.ren f g
def metV (f : Nat → Bool) : List TV := (List.range 256).map fun i => .val (.bool (f i))
def metU (f : Nat → Bool) (t : Nat) : Nat → Bool := fun i => Nat.beq i t || f i
theorem metV_len (f : Nat → Bool) : (metV f).length = 256 := by simp [metV]
theorem metV_at {f : Nat → Bool} {t : Nat} (h : t < 256) : (metV f)[t]? = some (.val (.bool (f t))) := by
 simp [metV, List.getElem?_map, List.getElem?_range h]
theorem metV_set (f : Nat → Bool) (t : Nat) : (metV f).set t (.val (.bool true)) = metV (metU f t) := by
  apply List.ext_getElem?
  intro j
  rw [List.getElem?_set]
  simp only [metV, List.getElem?_map, List.length_map, List.length_range]
  by_cases hj : j < 256
  · rw [List.getElem?_range hj]
    by_cases e : t = j
    · subst e; rw [if_pos rfl, if_pos hj]; simp [metU]
    · rw [if_neg e]
      have : Nat.beq j t = false := by
        cases hb : Nat.beq j t
        · rfl
        · exact absurd (Nat.eq_of_beq_eq_true hb).symm e
      simp [metU, this]
  · rw [List.getElem?_eq_none (by simpa using hj : (List.range 256).length ≤ j)]
    by_cases e : t = j
    · rw [if_pos e, if_neg (by omega)]; rfl
    · rw [if_neg e]; rfl
def aqGo : List Rw3 → (Nat → Bool) → AtS → (Int × Bs) ⊕ (AtS × (Nat → Bool))
 | [], f, a => .inr (a, f)
 | (fl, t, v) :: l, f, a => bif f t.toNat then .inl (1, []) else if tkS fl t v = 0 then aqGo l (metU f t.toNat) (a.put t v) else if tkS fl t v = 11 then .inl (11, []) else .inl (tkS fl t v, rbB fl t v)
def aqMet (a : AtS) (f : Nat → Bool) : (Int × Bs) ⊕ AtS := bif f 1 then (bif f 2 then (bif f 3 then .inr a else .inl (3, [bT 3])) else .inl (3, [bT 2])) else .inl (3, [bT 1])
def aqP (b : Bs) : (Int × Bs) ⊕ AtS := bif saO b then (match aqGo (saA b) (fun _ => false) at0 with
 | .inl e => .inl e
 | .inr (a, f) => aqMet a f) else .inl (1, [])
def ftT (c s : Int) (d : Bs) : TV := .agg [.val (.int .i64 c), .val (.int .i64 s), .vec 1 d .none]
def AtS.fix (a : AtS) : AtS := { a with x := match a.x with
 | .vec 1 l _ => .vec 1 l .none
 | _ => .vec 1 [] .none }
def aqX (b : Bs) : TV := match aqP b with
 | .inl (s, d) => .tup [at0.fix.tv, ftT 3 s d]
 | .inr a => .tup [a.fix.tv, ftT 0 0 []]
theorem AtS.Ok.fix_le {a : AtS} (h : a.Ok) : TVle a.tv a.fix.tv := by
 obtain ⟨o, hh, m, hm, x⟩ := a
 rcases h with h | ⟨l, h⟩ <;> simp only at h <;> subst h
 ·exact .agg ⟨.refl _, .nil 1, .refl _, .refl _, .refl _, trivial⟩
 ·exact .refl _
theorem AtS.Ok.fix_ren {a : AtS} (h : a.Ok) (f g : Nat → Option Nat) : a.fix.tv.ren f g = a.fix.tv := by
 obtain ⟨o, hh, m, hm, x⟩ := a
 rcases h with h | ⟨l, h⟩ <;> simp only at h <;> subst h
 ·rfl
 ·simp only [AtS.tv, AtS.fix, TV.ren, renL, iV_ren, Tok.ren]
def AllR (l : List Rw3) : Prop := ∀ p ∈ l, (0 ≤ p.1 ∧ p.1 < 256) ∧ (0 ≤ p.2.1 ∧ p.2.1 < 256) ∧ IsB p.2.2 ∧ p.2.2.length ≤ 900000
theorem nmB_lt {n : Nat} {b : Bs} (h : IsB b) (e : Int) : 0 ≤ nmB n b e ∧ nmB n b e < 256 ^ n := by rw [nmB_eq]; exact nmI_lt h e
theorem nmB1_lt {b : Bs} (h : IsB b) (e : Int) : 0 ≤ nmB 1 b e ∧ nmB 1 b e < 256 := nmB_lt (n := 1) h e
theorem tkB_le2 {n : Nat} {b : Bs} {e : Int} : (tkB n b e).length ≤ n := by
 have h := tkB_len (n := n) (b := b) (e := e)
 revert h; cases tkOk n b e <;> simp only [cond_true, cond_false] <;> omega
theorem saV_len {b : Bs} (h : IsB b) : (saV b).length ≤ 900000 := by
 have h2 : IsB (saR2 b) := tkR_is (tkR_is h)
 have h3 : 0 ≤ saN b ∧ saN b < 65536 := by
  unfold saN
  unfold szK
  cases exF (saC b)
  ·have := nmB_lt (n := 1) h2 (saE2 b)
   simp only [cond_false]; omega
  ·exact nmB_lt (n := 2) h2 (saE2 b)
 obtain ⟨k, hk⟩ := Int.eq_ofNat_of_zero_le h3.1
 have := tkB_le2 (n := k) (b := saR3 b) (e := saE3 b)
 unfold saV
 rw [hk] at h3 ⊢
 have h4 : k < 65536 := by omega
 exact Nat.le_trans this (by omega)
theorem saGo_rng : ∀ (k : Nat) (b : Bs) (acc : List Rw3), IsB b → AllR acc → ∀ l, saGo k b acc = some l → AllR l
 | 0, _, _, _, _, l, h => by cases h
 | k + 1, b, acc, hb, ha, l, h => by
  unfold saGo at h
  cases h1 : decide (leB b 0 > 0) <;> rw [h1] at h
  ·injection h with h; subst h; exact ha
  ·cases h2 : decide (saZ b = 0) <;> rw [h2] at h
   ·cases h
   ·refine saGo_rng k _ _ (saB_is hb) (fun p hp => ?_) l h
    rcases List.mem_append.1 hp with h3 | h3
    ·exact ha p h3
    ·obtain rfl := List.mem_singleton.1 h3
     exact ⟨nmB1_lt hb 0, nmB1_lt (tkR_is hb) _, saV_is hb, saV_len hb⟩
theorem saA_rng {b : Bs} (hb : IsB b) : AllR (saA b) := by
 unfold saA
 cases h : saP b with
 | none => exact fun p hp => by simp at hp
 | some l => exact saGo_rng _ _ _ hb (fun p hp => by simp at hp) l h
theorem saA_len {b : Bs} : (saA b).length ≤ b.length + 1 := by
 have key : ∀ (k : Nat) (b : Bs) (acc l : List Rw3), saGo k b acc = some l → l.length ≤ acc.length + b.length + 1 := by
  intro k
  induction k with
  | zero => intro b acc l h; cases h
  | succ k ih =>
   intro b acc l h
   unfold saGo at h
   by_cases hl : leB b 0 > 0
   ·rw [decide_eq_true hl] at h
    cases h2 : decide (saZ b = 0) <;> rw [h2] at h
    ·cases h
    ·have h3 := ih _ _ _ h
     have h4 := saB_lt hl
     simp only [List.length_append, List.length_cons, List.length_nil] at h3
     omega
   ·rw [decide_eq_false hl] at h
    injection h with h; subst h; omega
 unfold saA
 cases h : saP b with
 | none => simp
 | some l => have := key _ _ _ _ h; simpa using this
end Go.Proofs.YtogbdjlelkepcaaGreatDoor
namespace Go.Proofs.YtogbdjlelkepcaaGreatDoor
open Go.RowKit

abbrev apF := 84
def spWs : Spec := fun _ ys T K => match ys with
 | [.vec 1 b _] => IsB b ∧ bif saO b then K (.tup [.vec 3 (saL b) .none, .agg [.val (.int .i64 0), .val (.int .i64 0), .vec 1 [] .none]]) T else K (.tup [.vec 3 (saL b) .none, .agg [.val (.int .i64 3), .val (.int .i64 1), .vec 1 [] .none]]) T
 | _ => vbad 83 default ys
def tkaW : Spec := fun ro ys T K => match ys with
 | [.ptr k 0, .agg [.val (.int .i64 fl), .val (.int .i64 t), .vec 1 v .none]] => match T.objs[k]? with
  | some (.cells [.val (.int .i64 o), x, .val (.int .u32 h), .val (.int .i64 m), .val (.bool hm)]) => (Nat.ble ro k = true ∧ IsB v ∧ AtOk x) ∧ ∀ (s : Int) (O : VO), (s = tkS fl t v ∧ (s = 0 → TkEq o h m hm x t v O)) → K (.val (.int .i64 s)) { T with objs := T.objs.set k O }
  | _ => vbad 80 default ys
 | _ => vbad 81 default ys
def rbWs : Spec := fun _ ys T K => match ys with
 | [.agg [.val (.int .i64 fl), .val (.int .i64 t), .vec 1 v .none]] => RbOk fl t v ∧ K (.vec 1 (rbB fl t v) .none) T
 | _ => vbad 83 default ys
def nilT : TV := .val (.slice none 0 0)
def z61 : VO := .cells [.val (.int .i64 0), nilT, .val (.int .u32 0), .val (.int .i64 0), .val (.bool false)]
def zft : VO := .cells [.val (.int .i64 0), .val (.int .i64 0), nilT]
def aqK : List Nat := [2, 3, 6, 7, 22, 23, 24]
def aqV (L : Bs) (j : Int) : List TV := [.ptr 0 0, .ptr 1 0, .ptr 3 0, .ptr 4 0, .vec 3 L .none, .val (.int .i64 L.length), .val (.int .i64 j)]
def sf0 : VO := .cells [.val (.int .i64 0), .val (.int .i64 0), .vec 1 [] .none]
def mt0 : VO := .cells ((List.range 256).map fun _ => .val (.bool false))
def aqR (N : Nat) (L : Bs) (ok : Bool) (s : Int) (d : Bs) (o h m : Int) (hm : Bool) (xn : Bool) (xl : Bs) (c1 c2 c3 : Bool) (K : KX) : Prop := bif ok then (∀ (j : Int) (c0 : Bool) (rm : List TV), bif xn then K .normal (slotsN N aqK (aqV L j)) ⟨[z61, zft, sf0, atO o h m hm nilT, .cells (.val (.bool c0) :: .val (.bool c1) :: .val (.bool c2) :: .val (.bool c3) :: rm)], []⟩ [] else K .normal (slotsN N aqK (aqV L j)) ⟨[z61, zft, sf0, atO o h m hm (.vec 1 xl .none), .cells (.val (.bool c0) :: .val (.bool c1) :: .val (.bool c2) :: .val (.bool c3) :: rm)], []⟩ []) else ∀ (j : Int) (dz : TV) (rest : List VO) (tlz : Tl7), DzOk dz d → K .ret (slotsN N aqK (aqV L j)) ⟨z61 :: .cells [.val (.int .i64 3), .val (.int .i64 s), dz] :: rest, tlz⟩ []
def aqL (N : Nat) (L : Bs) (ok : Bool) (s : Int) (d : Bs) (o h m : Int) (hm : Bool) (xn : Bool) (xl : Bs) (c1 c2 c3 : Bool) (c0 : Code) : Nat → Option (LSpec × Code) := specsL [(0, loopL N aqK [] (aqV L 0) ⟨[z61, zft, sf0, z61, mt0], []⟩ (aqR N L ok s d o h m hm xn xl c1 c2 c3), c0)]
theorem ev_ap (b : Bs) (ok : Bool) (s : Int) (d : Bs) (o h m : Int) (hm : Bool) (xn : Bool) (xl : Bs) (c1 c2 c3 : Bool) (Q : TV → VT → Prop) : vcallF Tryz.prog noGl (specs [(spF, spWs)]) (tellS [(999999, .dead, none)]) 300 (aqL 65 (saL b) ok s d o h m hm xn xl c1 c2 c3 (codeAt Tryz.prog apF 0)) 0 apF [.vec 1 b .none] zz151 Q =
 (IsB (b) ∧
 (bif saO b
 then ((codeAt Tryz.prog apF (0 : Nat) = codeAt Tryz.prog apF (0 : Nat)) ∧
 (((@Eq (Option Nat) .none .none) ∧
 ((@Eq (Nat) 0 0) ∧
 ((@Eq (List Nat) [] []) ∧
 (True  ∧
 ((@Eq (VT) zz114 zz114) ∧
 ((@Eq (Bool) true true) ∧
 (@Eq (List TV) [zz19, zz20, zz99, zz103, (.vec 3 (saL b) .none), (zz0 (↑(List.length (saL b)) : Int)), zz6] [zz19, zz20, zz99, zz103, (.vec 3 (saL b) .none), (zz0 (↑(List.length (saL b)) : Int)), zz6]))))))) ∧
 (bif ok
 then (∀ j : Int, (∀ c0 : Bool, (∀ rm : List TV, (bif xn
 then (bif eqRes BinOp.eql (keyEq (Value.bool false) (Value.bool c1))
 then Q (zz113 [[(.val (.int .u8 1))]]) (zz112 [[(.val (.int .u8 1))]] o h m hm ([(.val (.bool (c0))), (.val (.bool (c1))), (.val (.bool (c2))), (.val (.bool (c3)))] ++ rm))
 else (bif eqRes BinOp.eql (keyEq (Value.bool false) (Value.bool c2))
 then Q (zz113 [[(.val (.int .u8 2))]]) (zz112 [[(.val (.int .u8 2))]] o h m hm ([(.val (.bool (c0))), (.val (.bool (c1))), (.val (.bool (c2))), (.val (.bool (c3)))] ++ rm))
 else (bif eqRes BinOp.eql (keyEq (Value.bool false) (Value.bool c3))
 then Q (zz113 [[(.val (.int .u8 3))]]) (zz112 [[(.val (.int .u8 3))]] o h m hm ([(.val (.bool (c0))), (.val (.bool (c1))), (.val (.bool (c2))), (.val (.bool (c3)))] ++ rm))
 else Q (.tup [(.agg [(zz0 o), zz5, (zz4 h), (zz0 m), (zz12 hm)]), zz46]) ⟨[(zz111 o h m hm), zz33, zz43, (zz111 o h m hm), (.cells ([(.val (.bool (c0))), (.val (.bool (c1))), (.val (.bool (c2))), (.val (.bool (c3)))] ++ rm))], []⟩)))
 else (bif eqRes BinOp.eql (keyEq (Value.bool false) (Value.bool c1))
 then Q (zz113 [[(.val (.int .u8 1))]]) (zz110 [[(.val (.int .u8 1))]] o xl h m hm ([(.val (.bool (c0))), (.val (.bool (c1))), (.val (.bool (c2))), (.val (.bool (c3)))] ++ rm))
 else (bif eqRes BinOp.eql (keyEq (Value.bool false) (Value.bool c2))
 then Q (zz113 [[(.val (.int .u8 2))]]) (zz110 [[(.val (.int .u8 2))]] o xl h m hm ([(.val (.bool (c0))), (.val (.bool (c1))), (.val (.bool (c2))), (.val (.bool (c3)))] ++ rm))
 else (bif eqRes BinOp.eql (keyEq (Value.bool false) (Value.bool c3))
 then Q (zz113 [[(.val (.int .u8 3))]]) (zz110 [[(.val (.int .u8 3))]] o xl h m hm ([(.val (.bool (c0))), (.val (.bool (c1))), (.val (.bool (c2))), (.val (.bool (c3)))] ++ rm))
 else Q (.tup [(.agg [(zz0 o), (zz1 xl), (zz4 h), (zz0 m), (zz12 hm)]), zz46]) ⟨[(zz23 o xl h m hm), zz33, zz43, (zz23 o xl h m hm), (.cells ([(.val (.bool (c0))), (.val (.bool (c1))), (.val (.bool (c2))), (.val (.bool (c3)))] ++ rm))], []⟩)))))))
 else (∀ j : Int, (∀ dz : TV, (∀ rest : List VO, (∀ tlz : Tl7, (DzOk (dz) (d) → Q (.tup [zz109, (.agg [zz58, (zz0 s), dz])]) ⟨[(.cells [(.val (.int .i64 0)), (.val (.slice .none 0 0)), (.val (.int .u32 0)), (.val (.int .i64 0)), (.val (.bool false))]), (.cells [(.val (.int .i64 3)), (.val (.int .i64 (s))), (dz)])] ++ rest, tlz⟩))))))))
 else Q (.tup [zz109, (.agg [zz58, zz37, zz29])]) ⟨[zz105, zz108, zz108], []⟩)) := by kernel_rfl
abbrev zzy17 (L : Bs) (j : Int) : List TV := (zz104 L (↑(List.length L) : Int) j)
theorem ev_apA (L : Bs) (j fl t : Int) (v : Bs) (tn : Nat) (c : Bool) (M M2 : List TV) (o h m : Int) (hm : Bool) (x : TV) (Q : Exit → List TV → VT → List Nat → Nat → Prop) : vx Tryz.prog noGl (specs [(tkaF, tkaW), (rabF, rbWs)]) (tellS [(999999, .dead, none), (26, .elt [.val (.int .i64 fl), .val (.int .i64 t), .vec 1 v .none], none), (30, .ptr 4 tn, none), (31, .val (.bool c), some fun T => T), (36, .ptr 4 tn, none), (500036, .val undef, some fun T => { T with objs := T.objs.set 4 (.cells M2) })]) 300 noLp none 0 (loopAt Tryz.prog apF 0) (slotsN 65 aqK (aqV L j)) ⟨[z61, zft, sf0, atO o h m hm x, .cells M], []⟩ [] (pickS aqK Q) =
 (bif decide (j < (↑(List.length L) : Int))
 then (OPure Tryz.prog (fun _ => .none) (.indexAddr 199 (.tmp 22) (.tmp 24)) [(22, (.vec 3 L .none)), (24, (zz0 j))] (.elt [(zz0 fl), (zz0 t), (zz1 v)]) ∧
 (OPure Tryz.prog (fun _ => .none) (.indexAddr 202 (.tmp 7) (.tmp 29)) [(7, zz103), (29, (zz0 t))] (.ptr 4 tn) ∧
 (OTurn Tryz.prog (fun _ => .none) 0 (zz107 o x h m hm M fl t v) (.load 4 (.tmp 30)) [(30, (.ptr 4 tn))] (zz12 c) (zz107 o x h m hm M fl t v) ∧
 (bif c
 then Q .ret (zzy17 L j) ⟨[zz105, zz130, zz43, (zz106 o x h m hm), (.cells M), (zz2 fl t v)], []⟩ [] 65
 else (OPure Tryz.prog (fun _ => .none) (.indexAddr 202 (.tmp 7) (.tmp 35)) [(7, zz103), (35, (zz0 t))] (.ptr 4 tn) ∧
 (OTurn Tryz.prog (fun _ => .none) 0 (zz107 o x h m hm M fl t v) (.store 4 (.tmp 36) (.const (.bool true))) [(36, (.ptr 4 tn))] (.val (.tuple #[])) (zz107 o x h m hm M2 fl t v) ∧
 (((@Eq (Bool) true true) ∧
 (IsB (v) ∧
 AtOk (x))) ∧
 (∀ s : Int, (∀ O : VO, (((@Eq (Int) (s) (tkS fl t v)) ∧
 ((@Eq (Int) (s) 0) → TkEq (o) (h) (m) (hm) (x) (t) (v) (O))) → (bif eqRes BinOp.eql (k6 s (0 : Int))
 then Q .normal (zz104 L (↑(List.length L) : Int) (IntKind.wrap IntKind.i64 (j + (1 : Int)))) ⟨[zz105, zz33, zz43, O, (.cells M2), (zz2 fl t v)], []⟩ [] 65
 else (bif eqRes BinOp.eql (k6 s (11 : Int))
 then Q .ret (zzy17 L j) ⟨[zz105, (.cells [zz58, (zz0 s), zz5]), zz43, O, (.cells M2), (zz2 fl t v)], []⟩ [] 65
 else (RbOk (fl) (t) (v) ∧
 Q .ret (zzy17 L j) ⟨[zz105, (zz102 s (rbB fl t v)), zz43, O, (.cells M2), (zz2 fl t v)], []⟩ [] 65)))))))))))))
 else Q (.exit 0) (zzy17 L j) ⟨[zz105, zz33, zz43, (zz106 o x h m hm), (.cells M)], []⟩ [] 65) := by kernel_rfl
end Go.Proofs.YtogbdjlelkepcaaGreatDoor
namespace Go.Proofs.YtogbdjlelkepcaaGreatDoor
open Go.RowKit

section
variable {P : Program} {G : Globs}
theorem opure_arr {t e : TypeId} {x i : Operand} {l : List (Nat × TV)} {inf : TypeInfo} {id off n : Nat} {k : IntKind} {z : Int} (ht : P.underlying t = some (.array n e)) (hi : P.info? e = some inf)
  (hx : evOf G l x = .ptr id off) (hz : evOf G l i = .val (.int k z)) (h0 : 0 ≤ z) (h1 : z < n) : OPure P G (.indexAddr t x i) l (.ptr id (off + z.toNat * inf.size)) := by
 refine ⟨?_⟩
 simp [vpure2, hx, hz, vindexR, vindexAddr, ht, hi, h0, h1]
theorem oturn_loadC {ro : Nat} {T : VT} {t : TypeId} {d : TypeDesc} {a : Operand} {l : List (Nat × TV)} {inf : TypeInfo} {id off : Nat} {cs : List TV} {y : TV} (ht : P.underlying t = some d) (hd : isAggD d = false) (hi : P.info? t = some inf)
  (ha : evOf G l a = .ptr id off) (ho : T.objs[id]? = some (.cells cs)) (hy : cs[off]? = some y) : OTurn P G ro T (.load t a) l y T := by
 refine .mk ?_
 have hlt := (List.getElem?_eq_some_iff.1 hy).1
 have hc : cellsAt T (.ptr id off) 1 = some [y] := by
  simp only [cellsAt, ho]
  rw [if_pos (by omega)]
  congr 1
  rw [List.take_one, List.head?_drop, hy]; rfl
 have h1 : vpure2 P (.load t a) (evOf G l) = none := by simp [vpure2, vpure]
 have h2 : vread2 P T (.load t a) (evOf G l) = some y := by simp [vread2, vread, vload, ht, hi, hd, ha, hc]
 simp only [vopA, h1, h2]
theorem oturn_storeC {ro : Nat} {T : VT} {t : TypeId} {a x : Operand} {l : List (Nat × TV)} {inf : TypeInfo} {id off : Nat} {cs new : List TV} (hi : P.info? t = some inf)
  (ha : evOf G l a = .ptr id off) (hx : cellsOf (evOf G l x) = some new) (ho : T.objs[id]? = some (.cells cs)) (hn : inf.size = new.length) (hle : off + new.length ≤ cs.length) (hc : new.all isCell = true) (hro : ro ≤ id) :
  OTurn P G ro T (.store t a x) l (.val undef) { T with objs := T.objs.set id (.cells (setCs cs off new)) } := by
 refine .old ?_ ?_
 ·simp [vfree, ha, hro]
 ·have h1 : vstore P T t (evOf G l a) (evOf G l x) = some (.val undef, { T with objs := T.objs.set id (.cells (setCs cs off new)) }) := by
   simp only [vstore, ha, ho, hx, hi]
   rw [if_pos ⟨hn, hle, hc⟩]
  simp [vop, vpure, vread, vwrite, h1]
theorem setCs_one (cs : List TV) (off : Nat) (y : TV) (h : off < cs.length) : setCs cs off [y] = cs.set off y := by
 unfold setCs
 rw [List.set_eq_take_append_cons_drop, if_pos h]
 simp
end
end Go.Proofs.YtogbdjlelkepcaaGreatDoor
namespace Go.Proofs.YtogbdjlelkepcaaGreatDoor
open Go.RowKit

theorem saX_ren {b : Bs} (hb : IsB b) (f g : Nat → Option Nat) : (saX b).ren f g = saX b := by
 simp only [saX, TV.ren, renL, saL_ren hb, Tok.ren, renLL]
theorem spWs_ok {f : FuncId} (h : ∀ {b : Bs}, IsB b → VCx Tryz.prog noGl 0 f [.vec 1 b .none] ⟨[], []⟩ fun x T' => x = saX b ∧ T' = ⟨[], []⟩) : ∀ ro ys T K, spWs ro ys T K → VCx Tryz.prog noGl ro f ys T K := by
 intro ro ys T K hw
 unfold spWs at hw
 split at hw
 ·rename_i b tok
  refine VCx.loosePure gvals_noGl (h hw.1) (by simp [looseTV]) (by simp [renL, TV.ren, hw.1.ren, Tok.ren]) (fun f h => saX_ren hw.1 f h) ?_
  have h2 := hw.2
  unfold saX
  cases hh : saO b <;> rw [hh] at h2 <;> exact h2
 ·exact hw.elim
theorem tkO_ren {o h m t : Int} {hm : Bool} {x : TV} {v : Bs} (hx : AtOk x) (f g : Nat → Option Nat) : (tkO o h m hm x t v).ren f g = tkO o h m hm x t v := by
 unfold tkO
 split
 ·exact atO_ren hx f g
 split
 ·exact atO_ren (ptLB_ren v) f g
 split
 ·exact atO_ren hx f g
 split
 ·exact atO_ren hx f g
 ·exact atO_ren hx f g
theorem tkaW_ok {f : FuncId} (hf : ∀ (o h m fl t : Int) (hm : Bool) {x : TV} (_ : ∀ f g, x.ren f g = x) {v : Bs} (_ : IsB v), VCx Tryz.prog noGl 0 f [.ptr 0 0, rawT fl t v] ⟨[atO o h m hm x], []⟩ (TkPost o h m hm x fl t v)) : ∀ ro ys T K, tkaW ro ys T K → VCx Tryz.prog noGl ro f ys T K := by
 intro ro ys T K hw
 unfold tkaW at hw
 split at hw
 ·rename_i k fl t v
  split at hw
  ·rename_i o x h m hm ho
   obtain ⟨⟨hro, hv, hx⟩, hk⟩ := hw
   refine VCx.at1 (Q := fun y o' l' => y = .val (.int .i64 (tkS fl t v)) ∧ l' = [] ∧ (tkS fl t v = 0 → o' = tkO o h m hm x t v)) gvals_noGl (Nat.le_of_ble_eq_true hro) ho rfl (atO_ren hx _ _) (ys1 := [.ptr 0 0, rawT fl t v]) (by simp [renL, TV.ren, nameIn, rawT, hv.ren, Tok.ren]) ((hf o h m fl t hm hx hv).mono ?_) ?_
   ·rintro y T' ⟨h1, O, h2, h3⟩
    exact ⟨O, [], h2, h1, rfl, h3⟩
   ·rintro y o' l' ⟨rfl, rfl, h3⟩
    simpa [TV.ren] using hk (tkS fl t v) (o'.ren (nameOut T.objs.length [k]) (nameOut T.tails.length [])) ⟨rfl, fun hs => by
     unfold TkEq
     rw [h3 hs]; exact tkO_ren hx _ _⟩
  ·exact hw.elim
 ·exact hw.elim
theorem rbWs_ok {f : FuncId} (h : ∀ (fl t : Int) (v : Bs), RbOk fl t v → VCx Tryz.prog noGl 0 f [rawT fl t v] ⟨[], []⟩ fun x T' => x = .vec 1 (rbB fl t v) .none ∧ T' = ⟨[], []⟩) : ∀ ro ys T K, rbWs ro ys T K → VCx Tryz.prog noGl ro f ys T K := by
 intro ro ys T K hw
 unfold rbWs at hw
 split at hw
 ·rename_i fl t v
  have hv := hw.1.2.2.1
  have hr := rbB_is (fl := fl) (t := t) hv hw.1.2.2.2
  exact VCx.liftPure gvals_noGl (h fl t v hw.1) (by simp [renL, TV.ren, rawT, hv.ren, Tok.ren]) (fun f g => by simp only [TV.ren, hr.ren, Tok.ren]) hw.2
 ·exact hw.elim
theorem rab_all (fl t : Int) (v : Bs) (h : RbOk fl t v) : VCx Tryz.prog noGl 0 rabF [rawT fl t v] ⟨[], []⟩ fun x T' => x = .vec 1 (rbB fl t v) .none ∧ T' = ⟨[], []⟩ := by
 cases v with
 | nil => exact rab0_vcx fl t
 | cons r v => exact rab_vcx fl t h.2.2.1 h.2.2.2
theorem metV_ren (f : Nat → Bool) (g h : Nat → Option Nat) : renL g h (metV f) = metV f := by
 simp only [renL_map, metV, List.map_map]; rfl
theorem metC_ren (f : Nat → Bool) (g h : Nat → Option Nat) : (VO.cells (metV f)).ren g h = .cells (metV f) := by
 simp only [VO.ren, metV_ren]
theorem metV_cons (f : Nat → Bool) : metV f = .val (.bool (f 0)) :: .val (.bool (f 1)) :: .val (.bool (f 2)) :: .val (.bool (f 3)) :: (metV f).drop 4 := rfl
def aqR0 (b : Bs) : (Int × Bs) ⊕ (AtS × (Nat → Bool)) := aqGo (saA b) (fun _ => false) at0
theorem aqGo_ok : ∀ (l : List Rw3) (f : Nat → Bool) (a : AtS), a.Ok → ∀ a' f', aqGo l f a = .inr (a', f') → a'.Ok
 | [], f, a, h, a', f', e => by injection e with e; injection e with e1 e2; exact e1 ▸ h
 | (fl, t, v) :: l, f, a, h, a', f', e => by
  unfold aqGo at e
  cases hf : f t.toNat <;> rw [hf] at e
  ·simp only [cond_false] at e
   split at e
   ·exact aqGo_ok l _ _ (h.put t v) a' f' e
   ·split at e <;> cases e
  ·cases e
def aqT (a : AtS) (f : Nat → Bool) : VT := ⟨[z61, zft, sf0, a.vo, .cells (metV f)], []⟩
def ftV (s : Int) (dz : TV) : VO := .cells [.val (.int .i64 3), .val (.int .i64 s), dz]
def aqPost (b : Bs) (ex : Exit) (vs : List TV) (T : VT) : Prop :=
 (∃ (a : AtS) (f : Nat → Bool) (j : Int), aqR0 b = .inr (a, f) ∧ ex = .normal ∧ vs = aqV (saL b) j ∧ T = aqT a f) ∨
 (∃ (s : Int) (d : Bs) (dz : TV) (rest : List VO) (tlz : Tl7) (j : Int), aqR0 b = .inl (s, d) ∧ DzOk dz d ∧ ex = .ret ∧ vs = aqV (saL b) j ∧ T = ⟨z61 :: ftV s dz :: rest, tlz⟩)
def AqPar (b : Bs) (ok : Bool) (s : Int) (d : Bs) (o h m : Int) (hm : Bool) (xn : Bool) (xl : Bs) (c1 c2 c3 : Bool) : Prop :=
 (ok = false ∧ aqR0 b = .inl (s, d)) ∨ (ok = true ∧ ∃ f, aqR0 b = .inr (⟨o, h, m, hm, bif xn then nilT else .vec 1 xl .none⟩, f) ∧ c1 = f 1 ∧ c2 = f 2 ∧ c3 = f 3)
theorem aqPost_ok {N : Nat} {b : Bs} {ok : Bool} {s : Int} {d : Bs} {o h m : Int} {hm xn : Bool} {xl : Bs} {c1 c2 c3 : Bool} {K : KX} (hp : AqPar b ok s d o h m hm xn xl c1 c2 c3) (hK : aqR N (saL b) ok s d o h m hm xn xl c1 c2 c3 K) {ex : Exit} {vs : List TV} {T : VT} (hq : aqPost b ex vs T) : K ex (slotsN N aqK vs) T [] := by
  unfold aqR at hK
  rcases hp with ⟨rfl, hr⟩ | ⟨rfl, f, hr, rfl, rfl, rfl⟩
  · rcases hq with ⟨a, f, j, h1, _⟩ | ⟨s', d', dz, rest, tlz, j, h1, h2, rfl, rfl, rfl⟩
    · rw [hr] at h1; cases h1
    · rw [hr] at h1; injection h1 with h1; injection h1 with e1 e2; subst e1 e2
      exact hK j dz rest tlz h2
  · rcases hq with ⟨a, f', j, h1, rfl, rfl, rfl⟩ | ⟨s', d', dz, rest, tlz, j, h1, _⟩
    · rw [hr] at h1; injection h1 with h1; injection h1 with e1 e2; subst e1 e2
      have h3 := hK j (f 0) ((metV f).drop 4)
      unfold aqT
      rw [metV_cons f]
      cases xn <;> exact h3
    · rw [hr] at h1; cases h1
theorem opure_ra {x i : Operand} {l : List (Nat × TV)} {es : Bs} {tok : Tok} {k : IntKind} {z : Int} {cs : List TV} (hx : evOf noGl l x = .vec 3 es tok) (hz : evOf noGl l i = .val (.int k z)) (h0 : 0 ≤ z) (he : es[z.toNat]? = some cs) : OPure Tryz.prog noGl (.indexAddr 199 x i) l (.elt cs) := by
 obtain ⟨inf, i1, i2, i3, i4⟩ := raInf_ex
 exact opure_index (inf := inf) Tryz.underlying199 i1 (by rw [i2]; exact hx) hz h0 he
theorem boInf_ex : ∃ inf : TypeInfo, Tryz.prog.info? 4 = some inf ∧ inf.size = 1 := ⟨(Tryz.prog.info? 4).getD default, by kernel_rfl, by kernel_rfl⟩
theorem boUnd_ex : ∃ d : TypeDesc, Tryz.prog.underlying 4 = some d ∧ isAggD d = false := ⟨_, Tryz.underlying4, rfl⟩
theorem opure_met {x i : Operand} {l : List (Nat × TV)} {id : Nat} {k : IntKind} {z : Int} (hx : evOf noGl l x = .ptr id 0) (hz : evOf noGl l i = .val (.int k z)) (h0 : 0 ≤ z) (h1 : z < 256) : OPure Tryz.prog noGl (.indexAddr 202 x i) l (.ptr id z.toNat) := by
 obtain ⟨inf, i1, i2⟩ := boInf_ex
 have h := opure_arr (P := Tryz.prog) (G := noGl) (inf := inf) (t := 202) (x := x) (i := i) (l := l) Tryz.underlying202 i1 hx hz h0 h1
 rwa [i2, Nat.mul_one, Nat.zero_add] at h
theorem oturn_met {T : VT} {a : Operand} {l : List (Nat × TV)} {id off : Nat} {f : Nat → Bool} (ha : evOf noGl l a = .ptr id off) (ho : T.objs[id]? = some (.cells (metV f))) (h1 : off < 256) : OTurn Tryz.prog noGl 0 T (.load 4 a) l (.val (.bool (f off))) T := by
 obtain ⟨inf, i1, i2⟩ := boInf_ex
 obtain ⟨d, d1, d2⟩ := boUnd_ex
 exact oturn_loadC d1 d2 i1 ha ho (metV_at h1)
theorem oturn_meet {T T' : VT} {a : Operand} {l : List (Nat × TV)} {id off : Nat} {f : Nat → Bool} (ha : evOf noGl l a = .ptr id off) (ho : T.objs[id]? = some (.cells (metV f))) (h1 : off < 256) (hT : { T with objs := T.objs.set id (.cells (metV (metU f off))) } = T') : OTurn Tryz.prog noGl 0 T (.store 4 a (.const (.bool true))) l (.val (.tuple #[])) T' := by
 obtain ⟨inf, i1, i2⟩ := boInf_ex
 have h := oturn_storeC (P := Tryz.prog) (G := noGl) (ro := 0) (T := T) (t := 4) (a := a) (x := .const (.bool true)) (l := l) (inf := inf) (id := id) (off := off) (cs := metV f) (new := [.val (.bool true)]) i1 ha rfl ho (by rw [i2]; rfl) (by rw [metV_len]; exact h1) rfl (Nat.zero_le _)
 rw [setCs_one _ _ _ (by rw [metV_len]; exact h1), metV_set, hT] at h
 exact h
abbrev AqS := Nat × (Nat → Bool) × AtS

theorem apSp : SpecsOk Tryz.prog noGl (specs [(tkaF, tkaW), (rabF, rbWs)]) := specs_ok fun p hp => by
 rcases List.mem_cons.1 hp with rfl | hp; exact tkaW_ok tka_vcx
 obtain rfl := List.mem_singleton.1 hp; exact rbWs_ok rab_all
theorem ap_round {b : Bs} (hb : IsB b) {ok : Bool} {s : Int} {d : Bs} {o h m : Int} {hm xn : Bool} {xl : Bs} {c1 c2 c3 : Bool} (hp : AqPar b ok s d o h m hm xn xl c1 c2 c3) (K : KX) (hK : aqR 65 (saL b) ok s d o h m hm xn xl c1 c2 c3 K) : VWx Tryz.prog noGl none 0 (codeAt Tryz.prog apF 0) (slotsN 65 aqK (aqV (saL b) 0)) ⟨[z61, zft, sf0, z61, mt0], []⟩ [] K := by
  have hA := saA_rng hb
  have hAl := saA_len (b := b)
  have hsm := hb.small
  let sl : AqS → List TV := fun s => aqV (saL b) s.1
  let TT : AqS → VT := fun s => aqT s.2.2 s.2.1
  refine loopK (f := apF) (id := 0) (by kernel_rfl) 65 aqK (fun s : AqS => (saA b).length - s.1) sl TT (fun s => s.1 ≤ (saA b).length ∧ s.2.2.Ok ∧ aqGo ((saA b).drop s.1) s.2.1 s.2.2 = aqR0 b) 5 0 (fun _ _ => ⟨Nat.le_refl _, Nat.le_refl _⟩)
    (aqPost b) (fun s hs => ?_) ⟨0, fun _ => false, at0⟩ ⟨Nat.zero_le _, at0_ok, rfl⟩ K (fun ex vs T h => aqPost_ok hp hK h)
  obtain ⟨k, f, a⟩ := s
  obtain ⟨hk, ha, hgo⟩ := hs
  simp only at hk ha hgo
  have hL : (saL b).length = (saA b).length := by simp [saL]
  by_cases hlt : k < (saA b).length
  · obtain ⟨fl, t, v, hat⟩ : ∃ fl t v, (saA b)[k]? = some (fl, t, v) := ⟨_, _, _, List.getElem?_eq_getElem hlt⟩
    obtain ⟨h1, h2, hv, hvl⟩ := hA _ (List.mem_of_getElem? hat)
    simp only at h1 h2 hv hvl
    have htn : t.toNat < 256 := by omega
    have hdrop : (saA b).drop k = (fl, t, v) :: (saA b).drop (k + 1) := by
      rw [List.drop_eq_getElem_cons hlt]
      have := List.getElem?_eq_getElem hlt
      rw [hat] at this; injection this with this; rw [← this]
    rw [hdrop] at hgo
    have hE : (saL b)[((k : Nat) : Int).toNat]? = some (saE (fl, t, v)) := by
      rw [Int.toNat_natCast]; simp [saL, List.getElem?_map, hat]
    refine vx_is mixedB_Tryz bodiesB_Tryz apSp lsOk_none (ev_apA (saL b) k fl t v t.toNat (f t.toNat) (metV f) (metV (metU f t.toNat)) a.o a.h a.m a.hm a.x _) ?_
    refine condT (decide_eq_true (show ((k : Nat) : Int) < ((saL b).length : Nat) by omega)) ⟨opure_ra rfl rfl (by omega) hE, opure_met rfl rfl h2.1 h2.2, oturn_met rfl rfl htn, ?_⟩
    cases hf : f t.toNat
    · refine ⟨opure_met rfl rfl h2.1 h2.2, oturn_meet rfl rfl htn rfl, ⟨rfl, hv, ha.ren⟩, ?_⟩
      rintro s O ⟨hs, hO⟩
      have hgo1 : aqGo ((fl, t, v) :: (saA b).drop (k + 1)) f a = (if tkS fl t v = 0 then aqGo ((saA b).drop (k + 1)) (metU f t.toNat) (a.put t v) else if tkS fl t v = 11 then .inl (11, []) else .inl (tkS fl t v, rbB fl t v)) := by
        simp only [aqGo, hf, cond_false]
      rw [← hs] at hgo1
      refine cond_of (fun e0 => ?_) (fun e0 => ?_)
      · replace e0 : s = 0 := eqIt e0
        have hO2 : O = (a.put t v).vo := by
          have := hO e0
          unfold TkEq at this
          rw [this, tkO_put]
        rw [wrap_id (z := ((k : Nat) : Int) + 1) (by omega) (by omega)]
        refine ⟨rfl, rfl, ⟨k + 1, metU f t.toNat, a.put t v⟩, ⟨hlt, ha.put t v, ?_⟩, by simp only; omega, .inr ⟨?_, ?_⟩⟩
        · simp only; rw [← hgo, hgo1, if_pos e0]
        · show VT.keep _ 5 0 = aqT _ _
          simp only [VT.keep, List.take_succ_cons, List.take_zero, List.map_cons, List.map_nil, hO2, (ha.put t v).vo_ren, metC_ren]
          rfl
        · simp only [renL, TV.ren, saL_ren hb, Tok.ren]
          simp only [sl, aqV]
          rfl
      · replace e0 : ¬ s = 0 := eqIf e0
        rw [if_neg e0] at hgo1
        refine cond_of (fun e1 => ?_) (fun e1 => ?_)
        · replace e1 : s = 11 := eqIt e1
          rw [if_pos e1] at hgo1
          exact ⟨rfl, rfl, .inr ⟨11, [], _, _, _, k, by rw [← hgo, hgo1], .nil, rfl, rfl, by rw [e1]; rfl⟩⟩
        · replace e1 : ¬ s = 11 := eqIf e1
          rw [if_neg e1] at hgo1
          exact ⟨⟨h1, h2, hv, hvl⟩, rfl, rfl, .inr ⟨s, rbB fl t v, _, _, _, k, by rw [← hgo, hgo1], .inr ⟨rfl, rbB_is hv hvl⟩, rfl, rfl, rfl⟩⟩
    · have hgo1 : aqGo ((fl, t, v) :: (saA b).drop (k + 1)) f a = .inl (1, []) := by
        simp only [aqGo, hf, cond_true]
      exact ⟨rfl, rfl, .inr ⟨1, [], _, _, _, k, by rw [← hgo, hgo1], .nil, rfl, rfl, rfl⟩⟩
  · have hk2 : k = (saA b).length := by omega
    refine vx_is mixedB_Tryz bodiesB_Tryz apSp lsOk_none (ev_apA (saL b) k 0 0 [] 0 false (metV f) [] a.o a.h a.m a.hm a.x _) ?_
    rw [hk2, List.drop_length] at hgo
    exact condF (decide_eq_false (show ¬ ((k : Nat) : Int) < ((saL b).length : Nat) by omega)) ⟨rfl, rfl, .inl ⟨a, f, k, hgo.symm, rfl, rfl, rfl⟩⟩
theorem ap_loop {b : Bs} (hb : IsB b) {ok : Bool} {s : Int} {d : Bs} {o h m : Int} {hm xn : Bool} {xl : Bs} {c1 c2 c3 : Bool} (hp : AqPar b ok s d o h m hm xn xl c1 c2 c3) : LsOk Tryz.prog noGl (aqL 65 (saL b) ok s d o h m hm xn xl c1 c2 c3 (codeAt Tryz.prog apF 0)) := specsL_ok fun p hq => by
 obtain rfl := List.mem_singleton.1 hq
 exact loopL_ok fun K hK => ap_round hb hp K hK

theorem aq_fail {b : Bs} {s : Int} {d : Bs} (h : aqP b = .inl (s, d)) {dz : TV} (hd : TVle dz (.vec 1 d .none)) : TVle (.tup [.agg [.val (.int .i64 0), nilT, .val (.int .u32 0), .val (.int .i64 0), .val (.bool false)], .agg [.val (.int .i64 3), .val (.int .i64 s), dz]]) (aqX b) := by
 unfold aqX
 rw [h]
 exact .tup ⟨.agg ⟨.refl _, .nil 1, .refl _, .refl _, .refl _, trivial⟩, .agg ⟨.refl _, .refl _, hd, trivial⟩, trivial⟩
theorem aq_good {b : Bs} {a : AtS} (h : aqP b = .inr a) (ha : a.Ok) : TVle (.tup [a.tv, .agg [.val (.int .i64 0), .val (.int .i64 0), nilT]]) (aqX b) := by
 unfold aqX
 rw [h]
 exact .tup ⟨ha.fix_le, .agg ⟨.refl _, .refl _, .nil 1, trivial⟩, trivial⟩
theorem aqX_ren (b : Bs) (f g : Nat → Option Nat) (hb : IsB b) : (aqX b).ren f g = aqX b := by
 have hd : ∀ s d, aqP b = .inl (s, d) → renLL f g d = d := by
  intro s d h
  unfold aqP at h
  cases ho : saO b <;> rw [ho] at h
  ·injection h with h; injection h with h1 h2; rw [← h2]; rfl
  ·simp only [cond_true] at h
   have key : ∀ (l : List Rw3) (f' : Nat → Bool) (a : AtS), AllR l → ∀ s d, aqGo l f' a = .inl (s, d) → renLL f g d = d := by
    intro l
    induction l with
    | nil => intro f' a _ s d e; cases e
    | cons p l ih =>
     obtain ⟨fl, t, v⟩ := p
     intro f' a hl s d e
     unfold aqGo at e
     obtain ⟨_, _, hv, hvl⟩ := hl _ List.mem_cons_self
     cases hf : f' t.toNat <;> rw [hf] at e
     ·simp only [cond_false] at e
      split at e
      ·exact ih _ _ (fun p hp => hl p (List.mem_cons_of_mem _ hp)) s d e
      ·split at e
       ·injection e with e; injection e with e1 e2; rw [← e2]; rfl
       ·injection e with e; injection e with e1 e2; rw [← e2]; exact (rbB_is hv hvl).ren f g
     ·injection e with e; injection e with e1 e2; rw [← e2]; rfl
   split at h
   ·rename_i e he
    injection h with h; subst h
    exact key _ _ _ (saA_rng hb) s d he
   ·rename_i a f' he
    unfold aqMet at h
    cases g1 : f' 1 <;> cases g2 : f' 2 <;> cases g3 : f' 3 <;> simp only [g1, g2, g3, cond_true, cond_false] at h <;> first | (cases h; done) | (injection h with h; injection h with e1 e2; rw [← e2]; rfl)
 have ha : ∀ a, aqP b = .inr a → a.Ok := by
  intro a h
  unfold aqP at h
  cases ho : saO b <;> rw [ho] at h
  ·cases h
  ·simp only [cond_true] at h
   split at h
   ·cases h
   ·rename_i a' f' he
    have := aqGo_ok _ _ _ at0_ok _ _ he
    unfold aqMet at h
    cases g1 : f' 1 <;> cases g2 : f' 2 <;> cases g3 : f' 3 <;> simp only [g1, g2, g3, cond_true, cond_false] at h <;> first | (cases h; done) | (injection h with h; exact h ▸ this)
 unfold aqX
 split
 ·rename_i s d h
  simp only [TV.ren, renL, ftT, hd s d h, at0_ok.fix_ren, Tok.ren]
 ·rename_i a h
  simp only [TV.ren, renL, ftT, (ha a h).fix_ren, Tok.ren, renLL]

theorem ap_vcx {b : Bs} (hb : IsB b) : VCx Tryz.prog noGl 0 apF [.vec 1 b .none] ⟨[], []⟩ fun x T' => x = aqX b ∧ T' = ⟨[], []⟩ := by
  have hS : SpecsOk Tryz.prog noGl (specs [(spF, spWs)]) := specs_ok fun p hp => by obtain rfl := List.mem_singleton.1 hp; exact spWs_ok sp_vcx
  refine VCx.toLe (Q := fun T' => T' = ⟨[], []⟩) (VCx.keepQ 0 0 (Nat.le_refl _) (Nat.le_refl _) ?_)
  cases hR : aqR0 b with
  | inl e =>
    obtain ⟨s, d⟩ := e
    have hp : AqPar b false s d 0 0 0 false false [] false false false := .inl ⟨rfl, hR⟩
    refine vcallF_is mixedB_Tryz bodiesB_Tryz hS (ap_loop hb hp) (ev_ap b false s d 0 0 0 false false [] false false false _) ?_
    refine ⟨hb, cond_of (fun ho => ⟨rfl, ⟨rfl, rfl, rfl, trivial, rfl, rfl, rfl⟩, fun j dz rest tlz hd => ⟨?_, rfl⟩⟩) (fun ho => ⟨?_, rfl⟩)⟩
    · have h1 : aqP b = .inl (s, d) := by
        unfold aqP; rw [ho]
        simp only [cond_true]
        rw [show aqGo (saA b) (fun _ => false) at0 = .inl (s, d) from hR]
      exact aq_fail h1 (hd.le _ _)
    · have h1 : aqP b = .inl (1, []) := by unfold aqP; rw [ho]; rfl
      exact aq_fail h1 (.refl _)
  | inr e =>
    obtain ⟨a, f⟩ := e
    have ha := aqGo_ok _ _ _ at0_ok _ _ hR
    obtain ⟨xn, xl, hx, hl⟩ : ∃ (xn : Bool) (xl : Bs), a.x = (bif xn then nilT else .vec 1 xl .none) ∧ ∀ f g, renLL f g xl = xl := by
      rcases ha with h | ⟨l, h⟩
      · exact ⟨true, [], h, fun _ _ => rfl⟩
      · exact ⟨false, iV l, h, fun f g => iV_ren f g l⟩
    obtain ⟨o, h, m, hm, x⟩ := a
    simp only at hx
    subst hx
    have hp : AqPar b true 0 [] o h m hm xn xl (f 1) (f 2) (f 3) := .inr ⟨rfl, f, hR, rfl, rfl, rfl⟩
    have hgo : saO b = true → aqP b = aqMet ⟨o, h, m, hm, bif xn then nilT else .vec 1 xl .none⟩ f := fun ho => by
      unfold aqP; rw [ho]
      simp only [cond_true]
      rw [show aqGo (saA b) (fun _ => false) at0 = .inr (⟨o, h, m, hm, bif xn then nilT else .vec 1 xl .none⟩, f) from hR]
    refine vcallF_is mixedB_Tryz bodiesB_Tryz hS (ap_loop hb hp) (ev_ap b true 0 [] o h m hm xn xl (f 1) (f 2) (f 3) _) ?_
    refine ⟨hb, cond_of (fun ho => ⟨rfl, ⟨rfl, rfl, rfl, trivial, rfl, rfl, rfl⟩, fun j c0 rm => ?_⟩) (fun ho => ⟨?_, rfl⟩)⟩
    · have h2 := hgo ho
      unfold aqMet at h2
      cases e1 : f 1
      · rw [e1] at h2
        cases xn <;> exact ⟨aq_fail h2 (TVle.vec 1 _ _), rfl⟩
      · cases e2 : f 2
        · rw [e1, e2] at h2
          cases xn <;> exact ⟨aq_fail h2 (TVle.vec 1 _ _), rfl⟩
        · cases e3 : f 3
          · rw [e1, e2, e3] at h2
            cases xn <;> exact ⟨aq_fail h2 (TVle.vec 1 _ _), rfl⟩
          · rw [e1, e2, e3] at h2
            have h3 := aq_good h2 ha
            cases xn
            · refine ⟨?_, rfl⟩
              simp only [TV.ren, renL, hl, Tok.ren]
              exact h3
            · exact ⟨h3, rfl⟩
    · have h1 : aqP b = .inl (1, []) := by unfold aqP; rw [ho]; rfl
      exact aq_fail h1 (.refl _)

end Go.Proofs.YtogbdjlelkepcaaGreatDoor
namespace Go.Proofs.YtogbdjlelkepcaaGreatDoor
open Go.RowKit

def paOk (b : Bs) : Bool := match aqP b with
 | .inr _ => true
 | .inl _ => false
def paSb (b : Bs) : Int := match aqP b with
 | .inr _ => 0
 | .inl e => e.1
def paDt (b : Bs) : Bs := match aqP b with
 | .inr _ => []
 | .inl e => e.2
def paAt (b : Bs) : AtS := match aqP b with
 | .inr a => a.fix
 | .inl _ => at0.fix
def paOr (b : Bs) : Int := (paAt b).o
def paHp (b : Bs) : Int := (paAt b).h
def paMd (b : Bs) : Int := (paAt b).m
def paHm (b : Bs) : Bool := (paAt b).hm
def paPt (b : Bs) : Bs := match (paAt b).x with
 | .vec _ l _ => l
 | _ => []
theorem fix_x (a : AtS) : ∃ l, a.fix.x = .vec 1 l .none := by
 unfold AtS.fix
 simp only
 split
 ·exact ⟨_, rfl⟩
 ·exact ⟨_, rfl⟩
theorem paAt_x (b : Bs) : (paAt b).x = .vec 1 (paPt b) .none := by
 obtain ⟨l, hl⟩ : ∃ l, (paAt b).x = .vec 1 l .none := by
  unfold paAt
  split <;> exact fix_x _
 rw [hl]; unfold paPt; rw [hl]
def paTv (b : Bs) : TV := .agg [.val (.int .i64 (paOr b)), .vec 1 (paPt b) .none, .val (.int .u32 (paHp b)), .val (.int .i64 (paMd b)), .val (.bool (paHm b))]
theorem paTv_at (b : Bs) : (paAt b).tv = paTv b := by
 unfold AtS.tv paTv
 rw [paAt_x]; rfl
theorem aqX_ok {b : Bs} (h : paOk b = true) : aqX b = .tup [paTv b, ftT 0 0 []] := by
 rw [← paTv_at]
 unfold aqX paAt
 unfold paOk at h
 cases e : aqP b with
 | inl x => rw [e] at h; cases h
 | inr a => rfl
theorem aqX_no {b : Bs} (h : paOk b = false) : aqX b = .tup [at0.fix.tv, ftT 3 (paSb b) (paDt b)] := by
 unfold aqX paSb paDt
 unfold paOk at h
 cases e : aqP b with
 | inl x => rfl
 | inr a => rw [e] at h; cases h
theorem paTv_ren {b : Bs} (hb : IsB b) (f g : Nat → Option Nat) : (paTv b).ren f g = paTv b := by
 cases h : paOk b
 ·rw [← paTv_at]
  unfold paAt
  unfold paOk at h
  cases e : aqP b with
  | inl x => exact at0_ok.fix_ren f g
  | inr a => rw [e] at h; cases h
 ·have h1 := aqX_ren b f g hb
  rw [aqX_ok h] at h1
  simp only [TV.ren, renL] at h1
  injection h1 with h1; injection h1 with h1
theorem paPt_ren {b : Bs} (hb : IsB b) (f g : Nat → Option Nat) : renLL f g (paPt b) = paPt b := by
 have h := paTv_ren hb f g
 simp only [paTv, TV.ren, renL] at h
 injection h with h; injection h with _ h; injection h with h; injection h with _ h
theorem paDt_ren {b : Bs} (hb : IsB b) (f g : Nat → Option Nat) : renLL f g (paDt b) = paDt b := by
 cases h : paOk b
 ·have h1 := aqX_ren b f g hb
  rw [aqX_no h] at h1
  simp only [TV.ren, renL, ftT] at h1
  injection h1 with h1; injection h1 with _ h1; injection h1 with h1; injection h1 with h1; injection h1 with _ h1; injection h1 with _ h1; injection h1 with h1; injection h1 with _ h1
 ·unfold paDt
  unfold paOk at h
  cases e : aqP b with
  | inl x => rw [e] at h; cases h
  | inr a => rfl
structure UpS where
 w : Bs
 o : Int
 x : Bs
 h : Int
 m : Int
 hm : Bool
 n : Bs
def UpS.cells (u : UpS) : List TV := [.vec 2 u.w .none, .val (.int .i64 u.o), .vec 1 u.x .none, .val (.int .u32 u.h), .val (.int .i64 u.m), .val (.bool u.hm), .vec 2 u.n .none]
def UpS.tv (u : UpS) : TV := .agg u.cells
def up0 : UpS := ⟨[], 0, [], 0, 0, false, []⟩
def upR2 (b : Bs) : Bs := tkR (nmB 2 b 0) (tkR (2 : Nat) b 0) (tkE (2 : Nat) b 0)
def upE2 (b : Bs) : Int := tkE (nmB 2 b 0) (tkR (2 : Nat) b 0) (tkE (2 : Nat) b 0)
def upG (b : Bs) : Bs := tkB (nmB 2 b 0) (tkR (2 : Nat) b 0) (tkE (2 : Nat) b 0)
def upA (b : Bs) : Bs := tkB (nmB 2 (upR2 b) (upE2 b)) (tkR (2 : Nat) (upR2 b) (upE2 b)) (tkE (2 : Nat) (upR2 b) (upE2 b))
def upR4 (b : Bs) : Bs := tkR (nmB 2 (upR2 b) (upE2 b)) (tkR (2 : Nat) (upR2 b) (upE2 b)) (tkE (2 : Nat) (upR2 b) (upE2 b))
def upE4 (b : Bs) : Int := tkE (nmB 2 (upR2 b) (upE2 b)) (tkR (2 : Nat) (upR2 b) (upE2 b)) (tkE (2 : Nat) (upR2 b) (upE2 b))
def upN (b : Bs) : Bs := tkB (leB (upR4 b) (upE4 b)) (upR4 b) (upE4 b)
def upE (b : Bs) : Int := tkE (leB (upR4 b) (upE4 b)) (upR4 b) (upE4 b)
theorem upR2_is {b : Bs} (h : IsB b) : IsB (upR2 b) := tkR_is (tkR_is h)
theorem upG_is {b : Bs} (h : IsB b) : IsB (upG b) := tkB_is (tkR_is h)
theorem upA_is {b : Bs} (h : IsB b) : IsB (upA b) := tkB_is (tkR_is (upR2_is h))
theorem upN_is {b : Bs} (h : IsB b) : IsB (upN b) := tkB_is (tkR_is (tkR_is (upR2_is h)))
def upP (b : Bs) : (Int × Bs) ⊕ UpS :=
 if ¬ upE b = 0 then .inl (1, []) else
 bif pfO (upG b) then bif pfO (upN b) then
  (if (upA b).length = 0 ∧ (pfL (upN b)).length = 0 then .inr { up0 with w := pfL (upG b), n := pfL (upN b) }
  else bif paOk (upA b) then (if 0 < (pfL (upN b)).length then .inr ⟨pfL (upG b), paOr (upA b), paPt (upA b), paHp (upA b), paMd (upA b), paHm (upA b), pfL (upN b)⟩ else .inr { up0 with w := pfL (upG b), n := pfL (upN b) })
  else if 0 < (pfL (upN b)).length then .inl (paSb (upA b), paDt (upA b)) else if paSb (upA b) = 3 then .inr { up0 with w := pfL (upG b), n := pfL (upN b) } else .inl (paSb (upA b), paDt (upA b)))
 else .inl (10, []) else .inl (10, [])
def upV (p : (Int × Bs) ⊕ UpS) : TV := match p with
 | .inl (s, d) => .tup [up0.tv, ftT 3 s d]
 | .inr u => .tup [u.tv, ftT 0 0 []]
def upX (b : Bs) : TV := upV (upP b)
def UpOk (u : UpS) : Prop := ∀ f g, u.tv.ren f g = u.tv
theorem upP_ok {b : Bs} (hb : IsB b) {u : UpS} (h : upP b = .inr u) : UpOk u := by
 have e1 : UpOk { up0 with w := pfL (upG b), n := pfL (upN b) } := fun f g => by simp only [UpS.tv, UpS.cells, up0, TV.ren, renL, pfL_ren, Tok.ren, renLL]
 have e2 : UpOk ⟨pfL (upG b), paOr (upA b), paPt (upA b), paHp (upA b), paMd (upA b), paHm (upA b), pfL (upN b)⟩ := fun f g => by simp only [UpS.tv, UpS.cells, TV.ren, renL, pfL_ren, paPt_ren (upA_is hb), Tok.ren]
 unfold upP at h
 split at h
 ·cases h
 cases g1 : pfO (upG b) <;> simp only [g1, cond_true, cond_false] at h
 ·cases h
 cases g2 : pfO (upN b) <;> simp only [g2, cond_true, cond_false] at h
 ·cases h
 split at h
 ·injection h with h; exact h ▸ e1
 cases g3 : paOk (upA b) <;> simp only [g3, cond_true, cond_false] at h
 ·split at h
  ·cases h
  split at h
  ·injection h with h; exact h ▸ e1
  ·cases h
 ·split at h
  ·injection h with h; exact h ▸ e2
  ·injection h with h; exact h ▸ e1
theorem upP_dt {b : Bs} (hb : IsB b) {s : Int} {d : Bs} (h : upP b = .inl (s, d)) (f g : Nat → Option Nat) : renLL f g d = d := by
 have hd := paDt_ren (upA_is hb) f g
 unfold upP at h
 split at h
 ·injection h with h; injection h with _ h; rw [← h]; rfl
 cases g1 : pfO (upG b) <;> simp only [g1, cond_true, cond_false] at h
 ·injection h with h; injection h with _ h; rw [← h]; rfl
 cases g2 : pfO (upN b) <;> simp only [g2, cond_true, cond_false] at h
 ·injection h with h; injection h with _ h; rw [← h]; rfl
 split at h
 ·cases h
 cases g3 : paOk (upA b) <;> simp only [g3, cond_true, cond_false] at h
 ·split at h
  ·injection h with h; injection h with _ h; rw [← h]; exact hd
  split at h
  ·cases h
  ·injection h with h; injection h with _ h; rw [← h]; exact hd
 ·split at h <;> cases h
theorem upX_ren {b : Bs} (hb : IsB b) (f g : Nat → Option Nat) : (upX b).ren f g = upX b := by
 unfold upX upV
 split
 ·rename_i s d h
  have := upP_dt hb h f g
  simp only [TV.ren, renL, ftT, UpS.tv, UpS.cells, up0, renLL, this, Tok.ren]
 ·rename_i u h
  have := upP_ok hb h f g
  simp only [TV.ren, renL, ftT, this, renLL, Tok.ren]
end Go.Proofs.YtogbdjlelkepcaaGreatDoor
namespace Go.Proofs.YtogbdjlelkepcaaGreatDoor
open Go.RowKit

abbrev upF := 48
def pfWb : Spec := fun _ ys T K => match ys with
 | [.vec 1 b _] => IsB b ∧ bif pfO b then K (.tup [.vec 2 (pfL b) .none, .val (.bool true)]) T else K (.tup [.vec 2 (pfL b) .none, .val (.bool false)]) T
 | _ => vbad 83 default ys
def apW : Spec := fun _ ys T K => match ys with
 | [.vec 1 b _] => IsB b ∧ bif paOk b then K (.tup [.agg [.val (.int .i64 (paOr b)), .vec 1 (paPt b) .none, .val (.int .u32 (paHp b)), .val (.int .i64 (paMd b)), .val (.bool (paHm b))], .agg [.val (.int .i64 0), .val (.int .i64 0), .vec 1 [] .none]]) T
  else K (.tup [.agg [.val (.int .i64 0), .vec 1 [] .none, .val (.int .u32 0), .val (.int .i64 0), .val (.bool false)], .agg [.val (.int .i64 3), .val (.int .i64 (paSb b)), .vec 1 (paDt b) .none]]) T
 | _ => vbad 83 default ys
end Go.Proofs.YtogbdjlelkepcaaGreatDoor
namespace Go.Proofs.YtogbdjlelkepcaaGreatDoor
open Go.RowKit

theorem pfWb_ok {f : FuncId} (h : ∀ b, IsB b → VCx Tryz.prog noGl 0 f [.vec 1 b .none] ⟨[], []⟩ fun x T' => x = pfX b ∧ T' = ⟨[], []⟩) : ∀ ro ys T K, pfWb ro ys T K → VCx Tryz.prog noGl ro f ys T K := by
 intro ro ys T K hw
 unfold pfWb at hw
 split at hw
 ·rename_i b tok
  refine VCx.loosePure gvals_noGl (h b hw.1) (by simp [looseTV]) (by simp [renL, TV.ren, hw.1.ren, Tok.ren]) (fun f h => pfX_ren b f h) ?_
  have h2 := hw.2
  unfold pfX
  cases hh : pfO b <;> rw [hh] at h2 <;> exact h2
 ·exact hw.elim
theorem apW_ok {f : FuncId} (h : ∀ {b : Bs}, IsB b → VCx Tryz.prog noGl 0 f [.vec 1 b .none] ⟨[], []⟩ fun x T' => x = aqX b ∧ T' = ⟨[], []⟩) : ∀ ro ys T K, apW ro ys T K → VCx Tryz.prog noGl ro f ys T K := by
 intro ro ys T K hw
 unfold apW at hw
 split at hw
 ·rename_i b tok
  refine VCx.loosePure gvals_noGl (h hw.1) (by simp [looseTV]) (by simp [renL, TV.ren, hw.1.ren, Tok.ren]) (fun f h => aqX_ren b f h hw.1) ?_
  have h2 := hw.2
  cases hh : paOk b <;> rw [hh] at h2
  ·rw [aqX_no hh]; exact h2
  ·rw [aqX_ok hh]; exact h2
 ·exact hw.elim
theorem gtN {n : Nat} (h : decide ((n : Int) > 0) = true) : 0 < n := by
 have := of_decide_eq_true h; omega
theorem ngtN {n : Nat} (h : decide ((n : Int) > 0) = false) : ¬ 0 < n := by
 have := of_decide_eq_false h; omega
section
variable {b : Bs}
end
theorem up_eqs {b : Bs} {z ez z2 e2 z3 e3 e4 e5 e6 : Int} {r1 v r2 r3 a r4 n : Bs} (h1 : z = nmB (2 : Nat) b 0 ∧ r1 = tkR ((2 : Nat) : Int) b 0 ∧ ez = tkE ((2 : Nat) : Int) b 0) (h2 : v = tkB z r1 ez ∧ r2 = tkR z r1 ez ∧ e2 = tkE z r1 ez) (h3 : z3 = nmB (2 : Nat) r2 e2 ∧ r3 = tkR ((2 : Nat) : Int) r2 e2 ∧ e3 = tkE ((2 : Nat) : Int) r2 e2) (h4 : a = tkB z3 r3 e3 ∧ r4 = tkR z3 r3 e3 ∧ e4 = tkE z3 r3 e3) (h5 : n = tkB (leB r4 e4) r4 e4 ∧ e5 = tkE (leB r4 e4) r4 e4) :
  v = upG b ∧ a = upA b ∧ n = upN b ∧ e5 = upE b := by
 obtain ⟨rfl, rfl, rfl⟩ := h1
 obtain ⟨rfl, rfl, rfl⟩ := h2
 obtain ⟨rfl, rfl, rfl⟩ := h3
 obtain ⟨rfl, rfl, rfl⟩ := h4
 obtain ⟨rfl, rfl⟩ := h5
 exact ⟨rfl, rfl, rfl, rfl⟩

end Go.Proofs.YtogbdjlelkepcaaGreatDoor
namespace Go.Proofs.YtogbdjlelkepcaaGreatDoor
open Go.RowKit

def FzLe (T : VT) (x y : TV) (T2 : VT) : Prop := ∀ g w u, RW g T w → VR g w x u → ∃ g', Evo g w g' w ∧ RW g' T2 w ∧ VR g' w y u
def FzL (T : VT) (l m : List TV) (T2 : VT) : Prop := ∀ g w us, RW g T w → VRs g w l us → ∃ g', Evo g w g' w ∧ RW g' T2 w ∧ VRs g' w m us
theorem FzLe.le {T : VT} {x y : TV} (h : TVle x y) : FzLe T x y T := fun g w u r hv => ⟨g, Evo.refl g w, r, h g w u hv⟩
theorem FzLe.row {T : VT} {id size off n : Nat} {es : List (List TV)} (h : rowsR T size (.row size id off n) = some es) : FzLe T (.row size id off n) (.vec size es .none) (T.kill id) := fun g w u r hv => row_freeze r h hv
theorem FzL.nil {T : VT} : FzL T [] [] T := fun g w us r hv => ⟨g, Evo.refl g w, r, hv⟩
theorem FzL.cons {T T1 T2 : VT} {x y : TV} {l m : List TV} (h1 : FzLe T x y T1) (h2 : FzL T1 l m T2) : FzL T (x :: l) (y :: m) T2 := by
 intro g w us r hv
 match us, hv with
 | [], hv => have := hv.1; simp at this
 | u :: us, hv =>
  have hu : VR g w x u := hv.2 0 x u rfl rfl
  have hus : VRs g w l us := ⟨by have := hv.1; simpa using this, fun j a v ha hv2 => hv.2 (j + 1) a v (by simpa using ha) (by simpa using hv2)⟩
  obtain ⟨g1, e1, r1, v1⟩ := h1 g w u r hu
  obtain ⟨g2, e2, r2, v2⟩ := h2 g1 w us r1 (hus.mono e1)
  exact ⟨g2, e1.trans e2, r2, VRs.cons (v1.mono e2) v2⟩
theorem FzL.le {T T2 : VT} {x : TV} {l m : List TV} (h2 : FzL T l m T2) : FzL T (x :: l) (x :: m) T2 := FzL.cons (.le (.refl x)) h2
theorem FzLe.agg {T T2 : VT} {l m : List TV} (h : FzL T l m T2) : FzLe T (.agg l) (.agg m) T2 := fun g w u r hv => by
 cases hv with
 | agg hl hv =>
  obtain ⟨g', e', r', h1, h2⟩ := h g w _ r ⟨hl, hv⟩
  exact ⟨g', e', r', .agg h1 h2⟩
theorem FzLe.tup {T T2 : VT} {l m : List TV} (h : FzL T l m T2) : FzLe T (.tup l) (.tup m) T2 := fun g w u r hu => by
 obtain ⟨us, rfl, hv⟩ := hu.tup_inv
 obtain ⟨g', e', r', h1, h2⟩ := h g w _ r hv
 exact ⟨g', e', r', .tup h1 h2⟩
theorem VCx.toFz {P : Program} {G : Globs} {f : FuncId} {xs : List TV} {T : VT} {y : TV} {Q : VT → Prop} (h : VCx P G 0 f xs T fun x T' => ∃ T2, FzLe T' x y T2 ∧ T'.objs.length ≤ T2.objs.length ∧ Q T2) : VCx P G 0 f xs T fun x T' => x = y ∧ Q T' := by
 intro g w us rw0 hG hx
 refine Calls.mono (h g w us rw0 hG hx) ?_
 rintro e w' ⟨v, x, g', T', he, ⟨T2, hq, hl, hQ⟩, e', r', hv, hfx⟩
 obtain ⟨g2, e2, r2, v2⟩ := hq g' w' v r' hv
 exact ⟨v, _, g2, T2, he, ⟨rfl, hQ⟩, e'.trans e2, r2, v2, ⟨Nat.le_trans hfx.len hl, fun i hi => absurd hi (Nat.not_lt_zero i), fun i o b hi => absurd hi (Nat.not_lt_zero i)⟩⟩
theorem VCx.anyG {P : Program} {G : Globs} {ro : Nat} {f : FuncId} {xs : List TV} {T : VT} {Q : TV → VT → Prop} (h : VCx P (fun _ => none) ro f xs T Q) : VCx P G ro f xs T Q := fun g w us rw0 _ hx => h g w us rw0 (fun n cs hn => by cases hn) hx
end Go.Proofs.YtogbdjlelkepcaaGreatDoor
namespace Go.Proofs.YtogbdjlelkepcaaGreatDoor
open Go.ChangeShapes Go.WideShapes Go.ChangeAt Go.RowKit Go.Joins Go.Deep

section
variable {H : Type} {enc : TypeId × Value → H} {P : Program} {w : World} {base : Nat} {spare : Nat → Bool} {held : Bool}
theorem cell_spot {r : Reach} {b0 : Nat} {t e : TypeId} {a : Addr} {n c : Nat} (ht : P.underlying t = some (.slice e)) (hv : Cell.okWide P w r b0 t (.slice (some a) n c)) : a.spot = none := by
 simp only [ht, Cell.okWide, Cell.ok] at hv
 exact hv.2.2.2.1
theorem flat1 {α : Type} (f : α → TV) : ∀ l : List α, (l.map fun i => [f i]).flatten = l.map f
 | [] => rfl
 | a :: l => by simp [flat1 f l]
theorem vr_ints {r : Reach} {b0 m : Nat} {t e : TypeId} {k : IntKind} {u : Value} {y : DataW H × List MemPlace} (ht : P.underlying t = some (.slice e)) (he : P.underlying e = some (.int k)) (hc : P.cellsOf e = 1) (hok : Cell.okWide P w r b0 t u)
    (h : DataW.trod enc P w base spare held m t [u] = some y) : ∃ l : List (List TV), VR (topG w) w (.vec 1 l .none) u ∧ ∀ x ∈ l, ∃ z, x = [.val (.int k z)] ∧ (Lit.int k z).wf = true := by
  rcases open_slice1 ht hc h with ⟨hcs, _⟩ | ⟨a, len, cap, m', n', V, D, Pl, hcs, hb, hl, hm, hmm, hx, hall⟩
  · injection hcs with hcs; subst hcs
    exact ⟨[], .nil trivial, fun x h => by cases h⟩
  · injection hcs with hcs; subst hcs
    have hs := cell_spot ht hok
    obtain ⟨b, o, sp⟩ := a
    simp only at hs
    subst hs
    have hlm : len ≤ m' := by rw [hmm]; split <;> omega
    have each : ∀ i, i < len → ∃ z, V i = .int k z ∧ (Lit.int k z).wf = true := fun i hi => by
      obtain ⟨_, h2⟩ := hall i (by omega)
      obtain ⟨z, e0, wz⟩ := leaf_int he h2
      exact ⟨z, e0, wz⟩
    have cellj : ∀ j, j < len → w.cell? ⟨b, o + j, none⟩ = some (V j) := fun j hj => by
      have h1 := (hall j (by omega)).1
      have h2 : (⟨b, o, none⟩ : Addr).add j = ⟨b, o + j, none⟩ := by
        cases j <;> simp [Addr.add]
      rw [h2] at h1
      exact h1
    refine ⟨(List.range len).map fun i => [.val (V i)], ?_, ?_⟩
    · have hlen : ((List.range len).map fun i => [TV.val (V i)]).length = len := by simp
      have hfl := flat1 (fun i => TV.val (V i)) (List.range len)
      have key : VR (topG w) w (.vec 1 ((List.range len).map fun i => [TV.val (V i)]) .none) (.slice (some ⟨b, o, none⟩) ((List.range len).map fun i => [TV.val (V i)]).length cap) := by
        refine .vec (us := (List.range len).map V) (by rw [hlen]; exact hl) hm ?_ trivial (by rw [hfl]; simp) ?_ ?_ ?_ ?_
        · intro x hx
          obtain ⟨i, _, rfl⟩ := List.mem_map.1 hx
          rfl
        · intro u hu
          obtain ⟨i, hi, rfl⟩ := List.mem_map.1 hu
          obtain ⟨z, hz, _⟩ := each i (List.mem_range.1 hi)
          rw [hz]; rfl
        · intro j hj
          rw [hfl] at hj
          simp at hj
          show (w.cell? ⟨b, o + j, none⟩).isSome = true
          rw [cellj j hj]; rfl
        · intro j u hu
          rw [List.getElem?_map] at hu
          rcases Nat.lt_or_ge j len with hj | hj
          · rw [List.getElem?_range hj] at hu
            injection hu with hu; subst hu
            exact cellj j hj
          · rw [List.getElem?_eq_none (by simpa using hj)] at hu; cases hu
        · intro j x u hx hu
          rw [hfl, List.getElem?_map] at hx
          rw [List.getElem?_map] at hu
          rcases Nat.lt_or_ge j len with hj | hj
          · rw [List.getElem?_range hj] at hx hu
            injection hx with hx; subst hx
            injection hu with hu; subst hu
            exact .val _
          · rw [List.getElem?_eq_none (by simpa using hj)] at hu; cases hu
      rw [hlen] at key
      exact key
    · intro x hx
      obtain ⟨i, hi, rfl⟩ := List.mem_map.1 hx
      obtain ⟨z, hz, wz⟩ := each i (List.mem_range.1 hi)
      exact ⟨z, by rw [hz], wz⟩
end
end Go.Proofs.YtogbdjlelkepcaaGreatDoor
namespace Go.Proofs.YtogbdjlelkepcaaGreatDoor
open Go.ChangeShapes Go.WideShapes Go.ChangeAt Go.RowKit Go.Joins

theorem own_Tryz : ownKnob Tryz.prog.godebug = none := by kernel_rfl
theorem laid_Tryz : laidOutB Tryz.prog = true := by kernel_rfl

end Go.Proofs.YtogbdjlelkepcaaGreatDoor
namespace Go.Proofs.YtogbdjlelkepcaaGreatDoor
open Go.ChangeShapes Go.WideShapes Go.ChangeAt Go.RowKit Go.Joins Go.Deep

def leastG : Globs := fun n => bif Nat.beq n 0 then some [.val (.int .i64 0), .val (.int .i64 29), .val (.int .i64 23), .val (.int .i64 21), .val (.int .i64 19)] else none
theorem leastG_vals : GVals leastG := fun n cs h => by
 unfold leastG at h
 cases hb : Nat.beq n 0 with
 | false => rw [hb] at h; cases h
 | true =>
  rw [hb] at h
  injection h with h; subst h
  exact ⟨[.int .i64 0, .int .i64 29, .int .i64 23, .int .i64 21, .int .i64 19], rfl⟩
def leastZ : List Int := [0, 29, 23, 21, 19]
theorem glob_least : Tryz.prog.globalNamed "fairway/message.least" = some 0 := by kernel_rfl
theorem gok_least {w : World} (h : Lib.TabIs Tryz.prog w "fairway/message.least" .i64 leastZ) : GOk leastG (topG w) w := by
 intro n cs hn
 unfold leastG at hn
 cases hb : Nat.beq n 0 with
 | false => rw [hb] at hn; cases hn
 | true =>
  rw [hb] at hn
  have := Nat.eq_of_beq_eq_true hb
  subst this
  injection hn with hn; subst hn
  have cell : ∀ (j : Nat) u, (leastZ.map fun z => Value.int .i64 z)[j]? = some u → w.cell? ⟨0, 0 + j, none⟩ = some u := fun j u hj => by
   have hlt : j < leastZ.length := by
    have := (List.getElem?_eq_some_iff.1 hj).1
    simpa using this
   have h1 := h.cell glob_least j hlt
   rw [Nat.zero_add, h1, ← hj, List.getElem?_map, List.getD_eq_getElem?_getD, List.getElem?_eq_getElem hlt]
   rfl
  refine VR.mk_elt (us := leastZ.map fun z => Value.int .i64 z) (VRs.vals (topG w) w [.int .i64 0, .int .i64 29, .int .i64 23, .int .i64 21, .int .i64 19]) (fun j hj => ?_) cell (fun u hu => ?_)
  ·show (w.cell? ⟨_, 0 + j, none⟩).isSome = true
   have hj' : j < (leastZ.map fun z => Value.int .i64 z).length := hj
   rw [cell j _ (List.getElem?_eq_getElem hj')]; rfl
  ·obtain ⟨z, _, rfl⟩ := List.mem_map.1 hu
   rfl
end Go.Proofs.YtogbdjlelkepcaaGreatDoor
namespace Go.Proofs.YtogbdjlelkepcaaGreatDoor
open Go.RowKit

def all255 (b : Bs) : Bool := (b.take 16).all fun r => decide (bval r = 255)
def hzN (b : Bs) : Int := geN 2 (b.drop 16)
def hzK (b : Bs) : Int := bval ((b.drop 18).headD [])
def szB (b : Bs) : Bs := (b.drop 16).take 2
def kdB (b : Bs) : Bs := (b.drop 18).take 1
def hdLe (k : Int) : Int := if k = 1 then 29 else if k = 2 then 23 else if k = 3 then 21 else 19
def hdP (b : Bs) : (Int × Bs) ⊕ (Int × Int) :=
 if b.length < 19 then .inr (0, 0) else bif all255 b then
  (if hzN b < 19 ∨ hzN b > 4096 then .inl (2, szB b) else if hzK b < 1 ∨ hzK b > 4 then .inl (3, kdB b)
  else if hzN b < hdLe (hzK b) ∨ (hzK b = 4 ∧ ¬ hzN b = 19) then .inl (2, szB b) else .inr (hzN b, hzK b))
 else .inl (1, [])
def hdOk (b : Bs) : Bool := match hdP b with
 | .inr _ => true
 | .inl _ => false
def hdN (b : Bs) : Int := match hdP b with
 | .inr p => p.1
 | .inl _ => 0
def hdK (b : Bs) : Int := match hdP b with
 | .inr p => p.2
 | .inl _ => 0
def hdS (b : Bs) : Int := match hdP b with
 | .inr _ => 0
 | .inl p => p.1
def hdD (b : Bs) : Bs := match hdP b with
 | .inr _ => []
 | .inl p => p.2
def hdV (p : (Int × Bs) ⊕ (Int × Int)) : TV := match p with
 | .inl (s, d) => .tup [.val (.int .i64 0), .val (.int .i64 0), ftT 1 s d]
 | .inr (n, k) => .tup [.val (.int .i64 n), .val (.int .i64 k), ftT 0 0 []]
def hdX (b : Bs) : TV := hdV (hdP b)
theorem hdD_is {b : Bs} (hb : IsB b) : IsB (hdD b) := by
 have h1 : IsB (szB b) := (hb.drop 16).take 2
 have h2 : IsB (kdB b) := (hb.drop 18).take 1
 unfold hdD hdP
 split
 ·exact .nil
 ·rename_i p hp
  split at hp
  ·cases hp
  cases h : all255 b <;> rw [h] at hp <;> simp only [cond_true, cond_false] at hp
  ·injection hp with hp; rw [← hp]; exact .nil
  split at hp
  ·injection hp with hp; rw [← hp]; exact h1
  split at hp
  ·injection hp with hp; rw [← hp]; exact h2
  split at hp
  ·injection hp with hp; rw [← hp]; exact h1
  ·cases hp
theorem hdX_ok {b : Bs} (h : hdOk b = true) : hdX b = .tup [.val (.int .i64 (hdN b)), .val (.int .i64 (hdK b)), ftT 0 0 []] := by
 unfold hdX hdV hdN hdK
 unfold hdOk at h
 cases e : hdP b with
 | inl x => rw [e] at h; cases h
 | inr p => rfl
theorem hdX_no {b : Bs} (h : hdOk b = false) : hdX b = .tup [.val (.int .i64 0), .val (.int .i64 0), ftT 1 (hdS b) (hdD b)] := by
 unfold hdX hdV hdS hdD
 unfold hdOk at h
 cases e : hdP b with
 | inl x => rfl
 | inr p => rw [e] at h; cases h
theorem hdX_ren {b : Bs} (hb : IsB b) (f g : Nat → Option Nat) : (hdX b).ren f g = hdX b := by
 cases h : hdOk b
 ·rw [hdX_no h]; simp only [TV.ren, renL, ftT, (hdD_is hb).ren, Tok.ren]
 ·rw [hdX_ok h]; simp only [TV.ren, renL, ftT, renLL, Tok.ren]
structure OpS where
 n : Int
 h : Int
 i : Int
 l : Bs
def op0 : OpS := ⟨0, 0, 0, []⟩
def OpS.cells (o : OpS) : List TV := [.val (.int .i64 o.n), .val (.int .i64 o.h), .val (.int .u32 o.i), .vec 2 o.l .none]
def opQ (x : TV) : (Int × Bs) ⊕ OpS := match x with
 | .tup [.agg [.val (.int _ n), .val (.int _ h), .val (.int _ i), .vec _ l _], .agg [.val (.int _ c), .val (.int _ s), .vec _ d _]] => if c = 0 then .inr ⟨n, h, i, l⟩ else .inl (s, d)
 | _ => .inl (0, [])
def opP (b : Bs) (pas : Int) : (Int × Bs) ⊕ OpS := opQ (opX b pas)
def opV (p : (Int × Bs) ⊕ OpS) : TV := match p with
 | .inl (s, d) => .tup [.agg op0.cells, ftT 2 s d]
 | .inr o => .tup [.agg o.cells, ftT 0 0 []]
theorem opX_form (b : Bs) (pas : Int) (hb : IsB b) : (∃ s d, opX b pas = opFail s d ∧ ∀ f g, renLL f g d = d) ∨ (∃ n h i l, opX b pas = opGood n h i l ∧ ∀ f g, renLL f g l = l) := by
 unfold opX
 split
 ·exact .inl ⟨_, _, rfl, fun _ _ => rfl⟩
 split
 ·exact .inl ⟨_, _, rfl, fun _ _ => rfl⟩
 unfold opMid opEnd
 split
 ·exact .inl ⟨_, _, rfl, fun _ _ => rfl⟩
 split
 ·exact .inl ⟨_, _, rfl, fun _ _ => rfl⟩
 split
 ·exact .inl ⟨_, _, rfl, fun _ _ => rfl⟩
 split
 ·exact .inl ⟨_, _, rfl, fun _ _ => rfl⟩
 split
 ·exact .inl ⟨_, _, rfl, fun _ _ => rfl⟩
 cases h : paO _ _
 ·exact .inl ⟨_, _, rfl, fun _ _ => rfl⟩
 ·exact .inr ⟨_, _, _, _, rfl, fun f g => paL_ren (tkR_is (tkR_is (tkR_is (tkR_is (tkR_is hb))))) _ f g⟩
theorem opX_eq (b : Bs) (pas : Int) (hb : IsB b) : opX b pas = opV (opP b pas) := by
 unfold opP
 rcases opX_form b pas hb with ⟨s, d, h, _⟩ | ⟨n, hh, i, l, h, _⟩ <;> rw [h] <;> rfl
def opOk (b : Bs) (pas : Int) : Bool := match opP b pas with
 | .inr _ => true
 | .inl _ => false
def opU (b : Bs) (pas : Int) : OpS := match opP b pas with
 | .inr o => o
 | .inl _ => op0
def opAs (b : Bs) (pas : Int) : Int := (opU b pas).n
def opHo (b : Bs) (pas : Int) : Int := (opU b pas).h
def opId (b : Bs) (pas : Int) : Int := (opU b pas).i
def opCp (b : Bs) (pas : Int) : Bs := (opU b pas).l
def opSb (b : Bs) (pas : Int) : Int := match opP b pas with
 | .inr _ => 0
 | .inl p => p.1
def opDt (b : Bs) (pas : Int) : Bs := match opP b pas with
 | .inr _ => []
 | .inl p => p.2
theorem opX_ok {b : Bs} {pas : Int} (hb : IsB b) (h : opOk b pas = true) : opX b pas = .tup [.agg (opU b pas).cells, ftT 0 0 []] := by
 rw [opX_eq b pas hb]
 unfold opV opU
 unfold opOk at h
 cases e : opP b pas with
 | inl x => rw [e] at h; cases h
 | inr p => rfl
theorem opX_no {b : Bs} {pas : Int} (hb : IsB b) (h : opOk b pas = false) : opX b pas = .tup [.agg op0.cells, ftT 2 (opSb b pas) (opDt b pas)] := by
 rw [opX_eq b pas hb]
 unfold opV opSb opDt
 unfold opOk at h
 cases e : opP b pas with
 | inl x => rfl
 | inr p => rw [e] at h; cases h
theorem opDt_ren {b : Bs} (pas : Int) (hb : IsB b) (f g : Nat → Option Nat) : renLL f g (opDt b pas) = opDt b pas := by
 unfold opDt opP
 rcases opX_form b pas hb with ⟨s, d, h, h2⟩ | ⟨n, hh, i, l, h, h2⟩ <;> rw [h]
 ·exact h2 f g
 ·rfl
theorem opCp_ren {b : Bs} (pas : Int) (hb : IsB b) (f g : Nat → Option Nat) : renLL f g (opCp b pas) = opCp b pas := by
 unfold opCp opU opP
 rcases opX_form b pas hb with ⟨s, d, h, h2⟩ | ⟨n, hh, i, l, h, h2⟩ <;> rw [h]
 ·rfl
 ·exact h2 f g
theorem opX_ren {b : Bs} (pas : Int) (hb : IsB b) (f g : Nat → Option Nat) : (opX b pas).ren f g = opX b pas := by
 cases h : opOk b pas
 ·rw [opX_no hb h]; simp only [TV.ren, renL, ftT, op0, OpS.cells, renLL, opDt_ren pas hb, Tok.ren]
 ·rw [opX_ok hb h]
  have := opCp_ren pas hb f g
  unfold opCp at this
  simp only [TV.ren, renL, ftT, OpS.cells, renLL, this, Tok.ren]
def upOk (b : Bs) : Bool := match upP b with
 | .inr _ => true
 | .inl _ => false
def upU (b : Bs) : UpS := match upP b with
 | .inr u => u
 | .inl _ => up0
def upSb (b : Bs) : Int := match upP b with
 | .inr _ => 0
 | .inl p => p.1
def upDt (b : Bs) : Bs := match upP b with
 | .inr _ => []
 | .inl p => p.2
def upcW (b : Bs) : Bs := (upU b).w
def upcO (b : Bs) : Int := (upU b).o
def upcX (b : Bs) : Bs := (upU b).x
def upcH (b : Bs) : Int := (upU b).h
def upcM (b : Bs) : Int := (upU b).m
def upcB (b : Bs) : Bool := (upU b).hm
def upcN (b : Bs) : Bs := (upU b).n
theorem upX_ok {b : Bs} (h : upOk b = true) : upX b = .tup [.agg (upU b).cells, ftT 0 0 []] := by
 unfold upX upV upU
 unfold upOk at h
 cases e : upP b with
 | inl x => rw [e] at h; cases h
 | inr p => rfl
theorem upX_no {b : Bs} (h : upOk b = false) : upX b = .tup [.agg up0.cells, ftT 3 (upSb b) (upDt b)] := by
 unfold upX upV upSb upDt
 unfold upOk at h
 cases e : upP b with
 | inl x => rfl
 | inr p => rw [e] at h; cases h
theorem upDt_ren {b : Bs} (hb : IsB b) (f g : Nat → Option Nat) : renLL f g (upDt b) = upDt b := by
 unfold upDt
 cases e : upP b with
 | inl x => exact upP_dt hb e f g
 | inr p => rfl
theorem upU_ren {b : Bs} (hb : IsB b) (f g : Nat → Option Nat) : renL f g (upU b).cells = (upU b).cells := by
 unfold upU
 cases e : upP b with
 | inl x => rfl
 | inr p =>
  have := upP_ok hb e f g
  simp only [UpS.tv, TV.ren] at this
  injection this
def ntC (b : Bs) : Int := bval (b[0]?.getD [])
def ntS (b : Bs) : Int := bval (b[1]?.getD [])
def ntD (b : Bs) : Bs := b.drop 2
theorem ntX_eq (b : Bs) : ntX b = bif ntO b then .tup [ftT (ntC b) (ntS b) (ntD b), .val (.bool true)] else .tup [ftT 0 0 [], .val (.bool false)] := rfl
theorem ntX_ren {b : Bs} (hb : IsB b) (f g : Nat → Option Nat) : (ntX b).ren f g = ntX b := by
 have := (hb.drop 2).ren f g
 unfold ntX
 cases ntO b
 ·rfl
 ·simp only [cond_true, TV.ren, renL, this, Tok.ren]
structure MsgS where
 k : Int
 op : OpS
 u : UpS
 c : Int
 s : Int
 d : Bs
def MsgS.cells (m : MsgS) : List TV := (.val (.int .i64 m.k)) :: (m.op.cells ++ (m.u.cells ++ [.val (.int .i64 m.c), .val (.int .i64 m.s), .vec 1 m.d .none]))
def m0 : MsgS := ⟨0, op0, up0, 0, 0, []⟩
def msP (b : Bs) (pas : Int) : (Int × Int × Bs) ⊕ MsgS :=
 bif hdOk b then
  (if b.length < 19 then .inl (1, 2, []) else if ¬ hdN b = b.length then .inl (1, 2, szB b) else
  if hdK b = 1 then (bif opOk (b.drop 19) pas then .inr { m0 with k := hdK b, op := opU (b.drop 19) pas } else .inl (2, opSb (b.drop 19) pas, opDt (b.drop 19) pas))
  else if hdK b = 2 then (bif upOk (b.drop 19) then .inr { m0 with k := hdK b, u := upU (b.drop 19) } else .inl (3, upSb (b.drop 19), upDt (b.drop 19)))
  else if hdK b = 3 then (bif ntO (b.drop 19) then .inr { m0 with k := hdK b, c := ntC (b.drop 19), s := ntS (b.drop 19), d := ntD (b.drop 19) } else .inl (1, 2, szB b))
  else .inr { m0 with k := hdK b })
 else .inl (1, hdS b, hdD b)
def msV (p : (Int × Int × Bs) ⊕ MsgS) : TV := match p with
 | .inl (c, s, d) => .tup [.agg m0.cells, ftT c s d]
 | .inr m => .tup [.agg m.cells, ftT 0 0 []]
def msX (b : Bs) (pas : Int) : TV := msV (msP b pas)
def MsOk (m : MsgS) : Prop := ∀ f g, renL f g m.cells = m.cells
theorem renL_app (f g : Nat → Option Nat) (l m : List TV) : renL f g (l ++ m) = renL f g l ++ renL f g m := by simp only [renL_map, List.map_append]
theorem msOk_of {m : MsgS} (h1 : ∀ f g, renL f g m.op.cells = m.op.cells) (h2 : ∀ f g, renL f g m.u.cells = m.u.cells) (h3 : ∀ f g, renLL f g m.d = m.d) : MsOk m := fun f g => by
 simp only [MsgS.cells, renL, renL_app, h1, h2, TV.ren, h3, Tok.ren]
theorem msP_ok {b : Bs} {pas : Int} (hb : IsB b) {m : MsgS} (h : msP b pas = .inr m) : MsOk m := by
  have hd := hb.drop 19
  unfold msP at h
  cases h1 : hdOk b <;> rw [h1] at h <;> simp only [cond_true, cond_false] at h
  · cases h
  split at h
  · cases h
  split at h
  · cases h
  split at h
  · cases h2 : opOk (b.drop 19) pas <;> rw [h2] at h <;> simp only [cond_true, cond_false] at h
    · cases h
    · injection h with h; subst h
      refine msOk_of (fun f g => ?_) (fun _ _ => rfl) (fun _ _ => rfl)
      have := opCp_ren pas hd f g
      unfold opCp at this
      simp only [OpS.cells, renL, TV.ren, this, Tok.ren]
  split at h
  · cases h2 : upOk (b.drop 19) <;> rw [h2] at h <;> simp only [cond_true, cond_false] at h
    · cases h
    · injection h with h; subst h
      exact msOk_of (fun _ _ => rfl) (fun f g => upU_ren hd f g) (fun _ _ => rfl)
  split at h
  · cases h2 : ntO (b.drop 19) <;> rw [h2] at h <;> simp only [cond_true, cond_false] at h
    · cases h
    · injection h with h; subst h
      exact msOk_of (fun _ _ => rfl) (fun _ _ => rfl) (fun f g => (hd.drop 2).ren f g)
  · injection h with h; subst h
    exact msOk_of (fun _ _ => rfl) (fun _ _ => rfl) (fun _ _ => rfl)
theorem msP_dt {b : Bs} {pas : Int} (hb : IsB b) {c s : Int} {d : Bs} (h : msP b pas = .inl (c, s, d)) (f g : Nat → Option Nat) : renLL f g d = d := by
 have hd := hb.drop 19
 have hz : IsB (szB b) := (hb.drop 16).take 2
 unfold msP at h
 cases h1 : hdOk b <;> rw [h1] at h <;> simp only [cond_true, cond_false] at h
 ·injection h with h; injection h with _ h; injection h with _ h; rw [← h]; exact (hdD_is hb).ren f g
 split at h
 ·injection h with h; injection h with _ h; injection h with _ h; rw [← h]; rfl
 split at h
 ·injection h with h; injection h with _ h; injection h with _ h; rw [← h]; exact hz.ren f g
 split at h
 ·cases h2 : opOk (b.drop 19) pas <;> rw [h2] at h <;> simp only [cond_true, cond_false] at h
  ·injection h with h; injection h with _ h; injection h with _ h; rw [← h]; exact opDt_ren pas hd f g
  ·cases h
 split at h
 ·cases h2 : upOk (b.drop 19) <;> rw [h2] at h <;> simp only [cond_true, cond_false] at h
  ·injection h with h; injection h with _ h; injection h with _ h; rw [← h]; exact upDt_ren hd f g
  ·cases h
 split at h
 ·cases h2 : ntO (b.drop 19) <;> rw [h2] at h <;> simp only [cond_true, cond_false] at h
  ·injection h with h; injection h with _ h; injection h with _ h; rw [← h]; exact hz.ren f g
  ·cases h
 ·cases h
theorem msX_ren {b : Bs} (pas : Int) (hb : IsB b) (f g : Nat → Option Nat) : (msX b pas).ren f g = msX b pas := by
 unfold msX msV
 split
 ·rename_i c s d h
  have := msP_dt hb h f g
  have h0 : renL f g m0.cells = m0.cells := rfl
  simp only [TV.ren, renL, ftT, this, h0, Tok.ren]
 ·rename_i m h
  have := msP_ok hb h f g
  simp only [TV.ren, renL, ftT, this, renLL, Tok.ren]
end Go.Proofs.YtogbdjlelkepcaaGreatDoor
namespace Go.Proofs.YtogbdjlelkepcaaGreatDoor
open Go.RowKit

abbrev hdF := 26
abbrev mpF := 28
def z19 (z0 z1 z2 z3 z4 z5 z6 z7 z8 z9 z10 z11 z12 z13 z14 z15 z16 z17 z18 : Int) (w : Bs) : Bs := bT z0 :: bT z1 :: bT z2 :: bT z3 :: bT z4 :: bT z5 :: bT z6 :: bT z7 :: bT z8 :: bT z9 :: bT z10 :: bT z11 :: bT z12 :: bT z13 :: bT z14 :: bT z15 :: bT z16 :: bT z17 :: bT z18 :: w
end Go.Proofs.YtogbdjlelkepcaaGreatDoor
namespace Go.Proofs.YtogbdjlelkepcaaGreatDoor
open Go.RowKit

theorem un1 {n : Nat} {l : List Int} (h : n + 1 ≤ l.length) : ∃ z l', l = z :: l' ∧ n ≤ l'.length := by
 cases l with
 | nil => simp at h
 | cons z l => exact ⟨z, l, rfl, by simpa using h⟩
def inZ (z : Int) : Prop := 0 ≤ z ∧ z < 256
theorem inZ.wrap {z : Int} (h : inZ z) : IntKind.wrap IntKind.i64 z = z := wrap_id (by have := h.1; omega) (by have := h.2; omega)
theorem eqAll_255 : ∀ l : List Int, eqAll (l.map (Value.int .u8)) (l.map fun _ => Value.int .u8 255) = (bV l).all fun r => decide (bval r = 255)
 | [] => rfl
 | z :: l => by
  have h := eqAll_255 l
  have e : cellEq (Value.int .u8 z) (Value.int .u8 255) = decide (z = 255) := by simp [cellEq, Bool.beq_eq_decide_eq]
  simp only [List.map_cons, eqAll, bV, List.all_cons, e] at h ⊢
  rw [show bval (bT z) = z from rfl]
  rw [h]
  cases decide (z = 255) <;> rfl
theorem geN2_lt {b : Bs} (hb : IsB b) : 0 ≤ geN 2 b ∧ geN 2 b < 65536 := by
 obtain ⟨⟨l, hl, hz⟩, _⟩ := hb.take 2
 have hlen : l.length ≤ 2 := by
  have := congrArg List.length hl
  simp only [bV, List.length_map, List.length_take] at this
  omega
 have h := beB_lt hz
 unfold geN
 rw [show (2 : Int).toNat = 2 from rfl, hl]
 refine ⟨h.1, Int.lt_of_lt_of_le h.2 ?_⟩
 have : l.length = 0 ∨ l.length = 1 ∨ l.length = 2 := by omega
 rcases this with h | h | h <;> rw [h] <;> decide
def leRest (k : Int) : List TV := ([.val (.int .i64 0), .val (.int .i64 29), .val (.int .i64 23), .val (.int .i64 21), .val (.int .i64 19)] : List TV).drop (k.toNat + 1)
theorem look_least {k : Int} (h1 : 1 ≤ k) (h4 : k ≤ 4) : OPure Tryz.prog leastG (.indexAddr 112 (.global 0) (.tmp 70)) [(70, (.val (.int .i64 k)))] (.elt ([.val (.int .i64 (hdLe k))] ++ leRest k)) := by
 have h : k = 1 ∨ k = 2 ∨ k = 3 ∨ k = 4 := by omega
 rcases h with rfl | rfl | rfl | rfl <;> exact ⟨by kernel_rfl⟩
section
variable {b : Bs}
theorem hdP_long (h : ¬ b.length < 19) : hdP b = bif all255 b then
  (if hzN b < 19 ∨ hzN b > 4096 then .inl (2, szB b) else if hzK b < 1 ∨ hzK b > 4 then .inl (3, kdB b)
  else if hzN b < hdLe (hzK b) ∨ (hzK b = 4 ∧ ¬ hzN b = 19) then .inl (2, szB b) else .inr (hzN b, hzK b))
 else .inl (1, []) := by unfold hdP; rw [if_neg h]
end
end Go.Proofs.YtogbdjlelkepcaaGreatDoor
namespace Go.Proofs.YtogbdjlelkepcaaGreatDoor
open Go.RowKit

section
variable {b : Bs} {pas : Int}
def mNil : TV := .val (.slice none 0 0)
theorem m0_le : TVle (.agg [.val (.int .i64 0), .val (.int .i64 0), .val (.int .i64 0), .val (.int .u32 0), mNil, mNil, .val (.int .i64 0), mNil, .val (.int .u32 0), .val (.int .i64 0), .val (.bool false), mNil, .val (.int .i64 0), .val (.int .i64 0), mNil]) (.agg m0.cells) :=
 .agg ⟨.refl _, .refl _, .refl _, .refl _, .nil 2, .nil 2, .refl _, .nil 1, .refl _, .refl _, .refl _, .nil 2, .refl _, .refl _, .nil 1, trivial⟩
theorem msP_bad (h : hdOk b = false) : msP b pas = .inl (1, hdS b, hdD b) := by unfold msP; rw [h]; rfl
theorem msP_long (h : hdOk b = true) (hl : ¬ b.length < 19) : msP b pas = if ¬ hdN b = b.length then .inl (1, 2, szB b) else
  if hdK b = 1 then (bif opOk (b.drop 19) pas then .inr { m0 with k := hdK b, op := opU (b.drop 19) pas } else .inl (2, opSb (b.drop 19) pas, opDt (b.drop 19) pas))
  else if hdK b = 2 then (bif upOk (b.drop 19) then .inr { m0 with k := hdK b, u := upU (b.drop 19) } else .inl (3, upSb (b.drop 19), upDt (b.drop 19)))
  else if hdK b = 3 then (bif ntO (b.drop 19) then .inr { m0 with k := hdK b, c := ntC (b.drop 19), s := ntS (b.drop 19), d := ntD (b.drop 19) } else .inl (1, 2, szB b))
  else .inr { m0 with k := hdK b } := by unfold msP; rw [h, cond_true, if_neg hl]
end
end Go.Proofs.YtogbdjlelkepcaaGreatDoor
namespace Go.Proofs.YtogbdjlelkepcaaGreatDoor
open Go.RowKit

section
variable {P : Program} {G : Globs}
theorem wrapC {j len : Nat} (h : j < len) (hlen : len ≤ 2000000) : IntKind.wrap IntKind.i64 (((j : Nat) : Int) + (1 : Int)) = ((j + 1 : Nat) : Int) := by
 simp only [IntKind.wrap, IntKind.bits, IntKind.signed]; simp; omega
theorem cntLoop {f : FuncId} {id : Nat} (hc : isLoopBlock id (codeAt P f id) = true) (n : Nat) (keys : List Nat) (sl : Int → List TV) (T : VT) (len : Nat) (Post : Exit → List TV → VT → Prop)
  (hbody : ∀ j : Nat, j ≤ len → VWx P G none 0 (loopAt P f id) (slotsN n keys (sl j)) T [] (pickS keys fun e vs T' D m => D = [] ∧ m = n ∧ match e with
   | .normal => j < len ∧ ((T' = T ∧ vs = sl (j + 1 : Nat)) ∨ (T'.keep T.objs.length T.tails.length = T ∧ renL (Go.Proofs.YtogbdjlelkepcaaGreatDoor.keep T.objs.length) (Go.Proofs.YtogbdjlelkepcaaGreatDoor.keep T.tails.length) vs = sl (j + 1 : Nat)))
   | .exit i => cond (Nat.beq i id) (Post .normal vs T') (Post (.exit i) vs T')
   | e => Post e vs T')) :
  ∀ K : KX, (∀ e vs T', Post e vs T' → K e (slotsN n keys vs) T' []) → VWx P G none 0 (codeAt P f id) (slotsN n keys (sl (0 : Nat))) T [] K := by
 intro K hK
 refine loopK (f := f) (id := id) hc n keys (fun j : Nat => len - j) (fun j : Nat => sl j) (fun _ => T) (fun j => j ≤ len) T.objs.length T.tails.length (fun _ _ => ⟨Nat.le_refl _, Nat.le_refl _⟩) Post (fun j hj => ?_) 0 (Nat.zero_le _) K hK
 refine (hbody j hj).mono fun e σ T' D hq => ?_
 obtain ⟨h1, h2, h3⟩ := hq
 refine ⟨h1, h2, ?_⟩
 cases e
 case normal =>
  obtain ⟨hlt, h4⟩ := h3
  refine ⟨j + 1, hlt, by show len - (j + 1) < len - j; omega, ?_⟩
  exact h4
 case exit i => exact h3
 all_goals exact h3
end
theorem bytesOf_bV : ∀ l : List Int, bytesOf (bV l) = some l
 | [] => rfl
 | z :: l => by
  have h := bytesOf_bV l
  simp only [bV, List.map_cons] at h ⊢
  simp only [bT, bytesOf, h]
  rfl
def strB (d : Bs) : ByteArray := bstrZ ((bytesOf d).getD [])
theorem eqSq (s : ByteArray) : eqRes BinOp.eql (keyEq (.string s) (.string s)) = true := by
 have h := (fit_eq (c := .str) (x := .string s) (y := .string s) rfl rfl).2 rfl
 simp [eqRes, keyEq, h]
theorem neSq (s : ByteArray) : eqRes BinOp.neq (keyEq (.string s) (.string s)) = false := by
 have h := (fit_eq (c := .str) (x := .string s) (y := .string s) rfl rfl).2 rfl
 simp [eqRes, keyEq, h]
theorem cellEq_int (k : IntKind) (z : Int) : cellEq (.int k z) (.int k z) = true := by simp [cellEq]
theorem neSelf (k : IntKind) (z : Int) : eqRes BinOp.neq (keyEq (.int k z) (.int k z)) = false := by simp [eqRes, keyEq, cellEq]
theorem eqSelf (k : IntKind) (z : Int) : eqRes BinOp.eql (keyEq (.int k z) (.int k z)) = true := by simp [eqRes, keyEq, cellEq]
theorem neSelfB (b : Bool) : eqRes BinOp.neq (keyEq (.bool b) (.bool b)) = false := by simp [eqRes, keyEq, cellEq]
theorem eqAll_self : ∀ l : List Value, (∀ v ∈ l, cellEq v v = true) → eqAll l l = true
 | [], _ => rfl
 | v :: l, h => by
  unfold eqAll
  rw [h v List.mem_cons_self, cond_true]
  exact eqAll_self l fun w hw => h w (List.mem_cons_of_mem _ hw)
theorem neAgg (l : List Value) (h : ∀ v ∈ l, cellEq v v = true) : eqRes BinOp.neq (keyEq (.agg l.toArray) (.agg l.toArray)) = false := by
 have e : keyEq (.agg l.toArray) (.agg l.toArray) = eqAll l l := by simp [keyEq]
 rw [e, eqAll_self l h]; rfl
end Go.Proofs.YtogbdjlelkepcaaGreatDoor
namespace Go.Proofs.YtogbdjlelkepcaaGreatDoor
open Go.RowKit

def u8v (z : Int) : TV := .val (.int .u8 z)
def sbB (cs : List TV) (off n : Nat) : Bs := chunks 1 n ((cs.drop off).take n)
def RwOk (cs : List TV) (off n : Nat) : Prop := off + n ≤ cs.length ∧ cs.length ≤ 1000000 ∧ ∃ l : List Int, cs = l.map u8v ∧ ∀ z ∈ l, 0 ≤ z ∧ z < 256
theorem chunks_u8 : ∀ l : List Int, chunks 1 l.length (l.map u8v) = bV l
 | [] => rfl
 | z :: l => by
  have h := chunks_u8 l
  simp only [List.length_cons, List.map_cons, chunks, List.take_succ_cons, List.take_zero, List.drop_succ_cons, List.drop_zero, h]
  rfl
theorem sb_eq {l : List Int} {off n : Nat} (h : off + n ≤ l.length) : sbB (l.map u8v) off n = bV ((l.drop off).take n) := by
 have e : ((l.map u8v).drop off).take n = ((l.drop off).take n).map u8v := by rw [← List.map_drop, ← List.map_take]
 have hl : ((l.drop off).take n).length = n := by rw [List.length_take, List.length_drop]; omega
 have h2 := chunks_u8 ((l.drop off).take n)
 rw [hl] at h2
 unfold sbB
 rw [e, h2]
theorem sb_len (cs : List TV) (off n : Nat) : (sbB cs off n).length = n := chunks_len 1 n _
section
variable {cs : List TV} {off n : Nat}
theorem RwOk.is (h : RwOk cs off n) : IsB (sbB cs off n) := by
 obtain ⟨h1, h2, l, rfl, hl⟩ := h
 rw [List.length_map] at h1 h2
 refine ⟨⟨(l.drop off).take n, sb_eq h1, fun z hz => hl z (List.mem_of_mem_drop (List.mem_of_mem_take hz))⟩, ?_⟩
 rw [sb_len]; omega
theorem RwOk.sub (h : RwOk cs off n) {o m : Nat} (h2 : o + m ≤ cs.length) : RwOk cs o m := ⟨h2, h.2.1, h.2.2⟩
theorem u8_ren (f g : Nat → Option Nat) : ∀ l : List Int, renL f g (l.map u8v) = l.map u8v
 | [] => rfl
 | z :: l => by simp only [List.map_cons, renL, u8_ren f g l]; rfl
theorem RwOk.ren (h : RwOk cs off n) (f g : Nat → Option Nat) : (VO.row cs).ren f g = .row cs := by
 obtain ⟨_, _, l, rfl, _⟩ := h
 simp only [VO.ren, u8_ren]
theorem sb_drop (h : RwOk cs off n) {m : Nat} (hm : m ≤ n) : (sbB cs off n).drop m = sbB cs (off + m) (n - m) := by
 obtain ⟨h1, h2, l, rfl, hl⟩ := h
 rw [List.length_map] at h1
 rw [sb_eq h1, sb_eq (by omega), bV, bV, ← List.map_drop, List.drop_take, List.drop_drop]
theorem sb_take (h : RwOk cs off n) {m : Nat} (hm : m ≤ n) : (sbB cs off n).take m = sbB cs off m := by
 obtain ⟨h1, h2, l, rfl, hl⟩ := h
 rw [List.length_map] at h1
 rw [sb_eq h1, sb_eq (by omega), bV, bV, ← List.map_take, List.take_take, Nat.min_eq_left hm]
end
section
variable {P : Program} {G : Globs}
theorem VCx.fzRow {f : FuncId} {xs : List TV} {cs : List TV} {y : TV} (hc : ∀ f g, (VO.row cs).ren f g = .row cs) (hy : ∀ f g, y.ren f g = y) (h : VCx P G 0 f xs ⟨[.row cs], []⟩ fun x T' => ∃ T2, FzLe T' x y T2 ∧ T'.objs.length ≤ T2.objs.length ∧ T2.objs[0]? = some (.row cs)) :
  VCx P G 0 f xs ⟨[.row cs], []⟩ fun x T' => x = y ∧ T' = ⟨[.row cs], []⟩ := by
 refine VCx.keepQ 1 0 (Nat.le_refl _) (Nat.le_refl _) ((VCx.toFz (y := y) (Q := fun T2 => T2.objs[0]? = some (.row cs)) h).mono ?_)
 rintro x T' ⟨rfl, h0⟩
 refine ⟨hy _ _, ?_⟩
 obtain ⟨objs, tails⟩ := T'
 cases objs with
 | nil => simp at h0
 | cons o l =>
  simp at h0; subst h0
  simp only [VT.keep, List.take_succ_cons, List.take_zero, List.map_cons, List.map_nil, hc]
theorem VCx.atRow {f : FuncId} {ro k : Nat} {cs : List TV} {ys0 ys1 : List TV} {y : TV} {T : VT} {K : TV → VT → Prop} (hG : GVals G) (hro : ro ≤ k) (ho : T.objs[k]? = some (.row cs)) (hc : ∀ f g, (VO.row cs).ren f g = .row cs) (hy : ∀ f g, y.ren f g = y) (hx : renL (nameIn [k]) (nameIn []) ys0 = ys1)
  (hv : VCx P G 0 f ys1 ⟨[.row cs], []⟩ fun x T' => x = y ∧ T' = ⟨[.row cs], []⟩) (hk : K y T) : VCx P G ro f ys0 T K := by
 refine VCx.at1 (Q := fun x o' l' => x = y ∧ o' = .row cs ∧ l' = []) hG hro ho rfl (hc _ _) hx (hv.mono fun x T' ⟨h1, h2⟩ => ⟨_, _, h2, h1, rfl, rfl⟩) ?_
 rintro x o' l' ⟨rfl, rfl, rfl⟩
 rw [hy, hc, set_same ho]
 simpa using hk
theorem oturn_appX {ro : Nat} {T : VT} {t e tx : TypeId} {s x : Operand} {l : List (Nat × TV)} {inf : TypeInfo} {z : Value} {q0 : List TV} {qs : List (List TV)} {id off n : Nat} (ht : P.underlying t = some (.slice e)) (hi : P.info? e = some inf) (hz : inf.zero = some z) (hzs : z.cells.size = inf.size) (hz1 : z.cells.toList.all Value.oneCell' = true)
  (hsl : isSl (P.underlying tx) = true) (hs : evOf G l s = .vec inf.size [] .full) (hx : evOf G l x = .row inf.size id off n) (hr : rowsR T inf.size (.row inf.size id off n) = some (q0 :: qs)) (hb : (q0 :: qs).length * (inf.bytes + 1) ≤ 140737488355328) :
  OTurn P G ro T (.call ⟨.builtin .append, #[s, x], #[t, tx]⟩) l (.row inf.size T.objs.length 0 (q0 :: qs).length) (T.newRow (q0 :: qs).flatten) := by
 refine .mk ?_
 have h1 : vpure2 P (.call ⟨.builtin .append, #[s, x], #[t, tx]⟩) (evOf G l) = none := by simp [vpure2, vpure]
 have h2 : vread2 P T (.call ⟨.builtin .append, #[s, x], #[t, tx]⟩) (evOf G l) = none := by simp [vread2, vread, vcalls]
 have h4 : vappS P T t tx (.vec inf.size [] .full) (.row inf.size id off n) = none := by simp [vappS, ht]
 have h3 : vappR P ro T t tx (.vec inf.size [] .full) (.row inf.size id off n) = some (.row inf.size T.objs.length 0 (q0 :: qs).length, T.newRow (q0 :: qs).flatten) := by
  unfold vappR
  simp only [ht, hi, hz, hr, hzs, decide_true, hz1, hsl, Bool.and_self, cond_true, Nat.beq_refl, List.length_nil, Nat.zero_add, List.flatten_nil, List.nil_append, Nat.ble_eq_true_of_le hb]
 have h5 : vappP P ro T t tx (.vec inf.size [] .full) (.row inf.size id off n) = none := rfl
 simp only [vopA, h1, h2, vmore, hs, hx, hsl, h4, h5, h3, cond_true]
theorem oturn_appE {ro : Nat} {T : VT} {t e tx : TypeId} {s x : Operand} {l : List (Nat × TV)} {inf : TypeInfo} {z : Value} {id off n : Nat} (ht : P.underlying t = some (.slice e)) (hi : P.info? e = some inf) (hz : inf.zero = some z) (hzs : z.cells.size = inf.size) (hz1 : z.cells.toList.all Value.oneCell' = true)
  (hsl : isSl (P.underlying tx) = true) (hs : evOf G l s = .vec inf.size [] .full) (hx : evOf G l x = .row inf.size id off n) (hr : rowsR T inf.size (.row inf.size id off n) = some []) :
  OTurn P G ro T (.call ⟨.builtin .append, #[s, x], #[t, tx]⟩) l (.vec inf.size [] .full) T := by
 refine .mk ?_
 have h1 : vpure2 P (.call ⟨.builtin .append, #[s, x], #[t, tx]⟩) (evOf G l) = none := by simp [vpure2, vpure]
 have h2 : vread2 P T (.call ⟨.builtin .append, #[s, x], #[t, tx]⟩) (evOf G l) = none := by simp [vread2, vread, vcalls]
 have h4 : vappS P T t tx (.vec inf.size [] .full) (.row inf.size id off n) = none := by simp [vappS, ht]
 have h3 : vappR P ro T t tx (.vec inf.size [] .full) (.row inf.size id off n) = some (.vec inf.size [] .full, T) := by
  unfold vappR
  simp only [ht, hi, hz, hr, hzs, decide_true, hz1, hsl, Bool.and_self, cond_true, Nat.beq_refl]
 have h5 : vappP P ro T t tx (.vec inf.size [] .full) (.row inf.size id off n) = none := rfl
 simp only [vopA, h1, h2, vmore, hs, hx, hsl, h4, h5, h3, cond_true]
theorem kill_le (T : VT) (i : Nat) : T.objs.length ≤ (T.kill i).objs.length := by simp [VT.kill]
end
end Go.Proofs.YtogbdjlelkepcaaGreatDoor
namespace Go.Proofs.YtogbdjlelkepcaaGreatDoor
open Go.RowKit

def rdR : Spec := fun ro ys T K => match ys with
 | [.row 1 k off n] => match T.objs[k]? with
  | some (.row cs) => (Nat.ble ro k = true ∧ RwOk cs off n) ∧ K (.ptr T.objs.length 0) { T with objs := T.objs ++ [srcO (sbB cs off n) 0 0] }
  | _ => vbad 80 default ys
 | _ => vbad 82 default ys
def clR : Spec := fun ro ys T K => match ys with
 | [.row 1 k off n] => match T.objs[k]? with
  | some (.row cs) => (Nat.ble ro k = true ∧ RwOk cs off n) ∧ K (.vec 1 (sbB cs off n) .none) T
  | _ => vbad 80 default ys
 | _ => vbad 82 default ys
abbrev zzy18 (v : Bs) (v_19 : Bs) (v_24 : Bs) : VO := (zz93 (pfL v) (paOr v_19) (paPt v_19) (paHp v_19) (paMd v_19) (paHm v_19) (pfL v_24))
abbrev zzy19 (v_19 : Bs) : VO := (zz23 (paOr v_19) (paPt v_19) (paHp v_19) (paMd v_19) (paHm v_19))
abbrev zzy20 (v_19 : Bs) : VO := (zz102 (paSb v_19) (paDt v_19))
abbrev zzy21 (v : Bs) (v_19 : Bs) (v_24 : Bs) : TV := (zz94 (pfL v) (paOr v_19) (paPt v_19) (paHp v_19) (paMd v_19) (paHm v_19) (pfL v_24))
theorem ev_upR (cs : List TV) (off n : Nat) (Q : TV → VT → Prop) : vcallF Tryz.prog noGl (specs [(wRdF, rdR), (wU16F, snU .i64 2), (wByF, sbU), (wReF, srestU), (wErF, seW), (pPaF, pfWb), (apF, apW)]) (tellS [(999999, .dead, none)]) 300 noLp 0 upF [.row 1 0 off n] (zz149 (.row cs)) Q =
 (((@Eq (Bool) true true) ∧
 RwOk (cs) (off) (n)) ∧
 (((@Eq (Bool) true true) ∧
 IsB (sbB cs off n)) ∧
 (∀ z : Int, (∀ bz : Bs, (∀ az : Int, (∀ ez : Int, (((@Eq (Int) (z) (nmB (2 : Nat) (sbB cs off n) (0 : Int))) ∧
 ((@Eq (Bs) (bz) (tkR (↑(2 : Nat) : Int) (sbB cs off n) (0 : Int))) ∧
 (@Eq (Int) (ez) (tkE (↑(2 : Nat) : Int) (sbB cs off n) (0 : Int))))) → (((@Eq (Bool) true true) ∧
 IsB (bz)) ∧
 (∀ v : Bs, (∀ bz_10 : Bs, (∀ az_11 : Int, (∀ ez_12 : Int, (((@Eq (Bs) (v) (tkB z bz ez)) ∧
 ((@Eq (Bs) (bz_10) (tkR z bz ez)) ∧
 (@Eq (Int) (ez_12) (tkE z bz ez)))) → (((@Eq (Bool) true true) ∧
 IsB (bz_10)) ∧
 (∀ z_14 : Int, (∀ bz_15 : Bs, (∀ az_16 : Int, (∀ ez_17 : Int, (((@Eq (Int) (z_14) (nmB (2 : Nat) bz_10 ez_12)) ∧
 ((@Eq (Bs) (bz_15) (tkR (↑(2 : Nat) : Int) bz_10 ez_12)) ∧
 (@Eq (Int) (ez_17) (tkE (↑(2 : Nat) : Int) bz_10 ez_12)))) → (((@Eq (Bool) true true) ∧
 IsB (bz_15)) ∧
 (∀ v_19 : Bs, (∀ bz_20 : Bs, (∀ az_21 : Int, (∀ ez_22 : Int, (((@Eq (Bs) (v_19) (tkB z_14 bz_15 ez_17)) ∧
 ((@Eq (Bs) (bz_20) (tkR z_14 bz_15 ez_17)) ∧
 (@Eq (Int) (ez_22) (tkE z_14 bz_15 ez_17)))) → (((@Eq (Bool) true true) ∧
 IsB (bz_20)) ∧
 (∀ v_24 : Bs, (∀ bz_25 : Bs, (∀ az_26 : Int, (∀ ez_27 : Int, (((@Eq (Bs) (v_24) (tkB (leB bz_20 ez_22) bz_20 ez_22)) ∧
 ((@Eq (Bs) (bz_25) (tkR (leB bz_20 ez_22) bz_20 ez_22)) ∧
 (@Eq (Int) (ez_27) (tkE (leB bz_20 ez_22) bz_20 ez_22)))) → (((@Eq (Bool) true true) ∧
 IsB (bz_25)) ∧
 (bif eqRes BinOp.neq (k6 ez_27 (0 : Int))
 then Q (.tup [zz87, zz133]) ⟨[(zz32 cs), zz101, zz130, (.cells [zz27, (zz1 bz_25), (zz0 az_26), (zz0 ez_27)]), zz100, zz101, zz130], []⟩
 else (IsB (v) ∧
 (bif pfO v
 then (IsB (v_24) ∧
 (bif pfO v_24
 then (bif eqRes BinOp.eql (k6 (↑(List.length v_19) : Int) (0 : Int))
 then (bif eqRes BinOp.eql (k6 (↑(List.length (pfL v_24)) : Int) (0 : Int))
 then Q (zz98 (pfL v) (pfL v_24)) ⟨[(zz32 cs), (zz97 (pfL v) (pfL v_24)), zz33, (.cells [zz27, (zz1 bz_25), (zz0 az_26), (zz0 ez_27)]), zz100, (zz97 (pfL v) (pfL v_24)), (zz96 v), (zz95 v_24)], []⟩
 else (IsB (v_19) ∧
 (bif paOk v_19
 then (bif decide ((↑(List.length (pfL v_24)) : Int) > (0 : Int))
 then (bif decide ((↑(List.length (pfL v_24)) : Int) > (0 : Int))
 then Q (zzy21 v v_19 v_24) ⟨[(zz32 cs), (zzy18 v v_19 v_24), zz33, (.cells [zz27, (zz1 bz_25), (zz0 az_26), (zz0 ez_27)]), zz100, (zzy18 v v_19 v_24), (zz96 v), (zz95 v_24), (zzy19 v_19), zz43], []⟩
 else Q (zz98 (pfL v) (pfL v_24)) ⟨[(zz32 cs), (zz97 (pfL v) (pfL v_24)), zz33, (.cells [zz27, (zz1 bz_25), (zz0 az_26), (zz0 ez_27)]), zz100, (zz97 (pfL v) (pfL v_24)), (zz96 v), (zz95 v_24), (zzy19 v_19), zz43], []⟩)
 else (bif decide ((↑(List.length (pfL v_24)) : Int) > (0 : Int))
 then Q (zzy21 v v_19 v_24) ⟨[(zz32 cs), (zzy18 v v_19 v_24), zz33, (.cells [zz27, (zz1 bz_25), (zz0 az_26), (zz0 ez_27)]), zz100, (zzy18 v v_19 v_24), (zz96 v), (zz95 v_24), (zzy19 v_19), zz43], []⟩
 else Q (zz98 (pfL v) (pfL v_24)) ⟨[(zz32 cs), (zz97 (pfL v) (pfL v_24)), zz33, (.cells [zz27, (zz1 bz_25), (zz0 az_26), (zz0 ez_27)]), zz100, (zz97 (pfL v) (pfL v_24)), (zz96 v), (zz95 v_24), (zzy19 v_19), zz43], []⟩))
 else (bif decide ((↑(List.length (pfL v_24)) : Int) > (0 : Int))
 then Q (zz92 (paSb v_19) (paDt v_19)) ⟨[(zz32 cs), zz101, (zzy20 v_19), (.cells [zz27, (zz1 bz_25), (zz0 az_26), (zz0 ez_27)]), zz100, (zz97 (pfL v) (pfL v_24)), (zz96 v), (zz95 v_24), zz91, (zzy20 v_19)], []⟩
 else (bif eqRes BinOp.neq (k6 (paSb v_19) (3 : Int))
 then Q (zz92 (paSb v_19) (paDt v_19)) ⟨[(zz32 cs), zz101, (zzy20 v_19), (.cells [zz27, (zz1 bz_25), (zz0 az_26), (zz0 ez_27)]), zz100, (zz97 (pfL v) (pfL v_24)), (zz96 v), (zz95 v_24), zz91, (zzy20 v_19)], []⟩
 else (bif decide ((↑(List.length (pfL v_24)) : Int) > (0 : Int))
 then Q (zz90 (pfL v) (pfL v_24)) ⟨[(zz32 cs), (zz89 (pfL v) (pfL v_24)), zz33, (.cells [zz27, (zz1 bz_25), (zz0 az_26), (zz0 ez_27)]), zz100, (zz89 (pfL v) (pfL v_24)), (zz96 v), (zz95 v_24), zz91, (zzy20 v_19)], []⟩
 else Q (zz98 (pfL v) (pfL v_24)) ⟨[(zz32 cs), (zz97 (pfL v) (pfL v_24)), zz33, (.cells [zz27, (zz1 bz_25), (zz0 az_26), (zz0 ez_27)]), zz100, (zz97 (pfL v) (pfL v_24)), (zz96 v), (zz95 v_24), zz91, (zzy20 v_19)], []⟩))))))
 else (IsB (v_19) ∧
 (bif paOk v_19
 then (bif decide ((↑(List.length (pfL v_24)) : Int) > (0 : Int))
 then (bif decide ((↑(List.length (pfL v_24)) : Int) > (0 : Int))
 then Q (zzy21 v v_19 v_24) ⟨[(zz32 cs), (zzy18 v v_19 v_24), zz33, (.cells [zz27, (zz1 bz_25), (zz0 az_26), (zz0 ez_27)]), zz100, (zzy18 v v_19 v_24), (zz96 v), (zz95 v_24), (zzy19 v_19), zz43], []⟩
 else Q (zz98 (pfL v) (pfL v_24)) ⟨[(zz32 cs), (zz97 (pfL v) (pfL v_24)), zz33, (.cells [zz27, (zz1 bz_25), (zz0 az_26), (zz0 ez_27)]), zz100, (zz97 (pfL v) (pfL v_24)), (zz96 v), (zz95 v_24), (zzy19 v_19), zz43], []⟩)
 else (bif decide ((↑(List.length (pfL v_24)) : Int) > (0 : Int))
 then Q (zzy21 v v_19 v_24) ⟨[(zz32 cs), (zzy18 v v_19 v_24), zz33, (.cells [zz27, (zz1 bz_25), (zz0 az_26), (zz0 ez_27)]), zz100, (zzy18 v v_19 v_24), (zz96 v), (zz95 v_24), (zzy19 v_19), zz43], []⟩
 else Q (zz98 (pfL v) (pfL v_24)) ⟨[(zz32 cs), (zz97 (pfL v) (pfL v_24)), zz33, (.cells [zz27, (zz1 bz_25), (zz0 az_26), (zz0 ez_27)]), zz100, (zz97 (pfL v) (pfL v_24)), (zz96 v), (zz95 v_24), (zzy19 v_19), zz43], []⟩))
 else (bif decide ((↑(List.length (pfL v_24)) : Int) > (0 : Int))
 then Q (zz92 (paSb v_19) (paDt v_19)) ⟨[(zz32 cs), zz101, (zzy20 v_19), (.cells [zz27, (zz1 bz_25), (zz0 az_26), (zz0 ez_27)]), zz100, (zz97 (pfL v) (pfL v_24)), (zz96 v), (zz95 v_24), zz91, (zzy20 v_19)], []⟩
 else (bif eqRes BinOp.neq (k6 (paSb v_19) (3 : Int))
 then Q (zz92 (paSb v_19) (paDt v_19)) ⟨[(zz32 cs), zz101, (zzy20 v_19), (.cells [zz27, (zz1 bz_25), (zz0 az_26), (zz0 ez_27)]), zz100, (zz97 (pfL v) (pfL v_24)), (zz96 v), (zz95 v_24), zz91, (zzy20 v_19)], []⟩
 else (bif decide ((↑(List.length (pfL v_24)) : Int) > (0 : Int))
 then Q (zz90 (pfL v) (pfL v_24)) ⟨[(zz32 cs), (zz89 (pfL v) (pfL v_24)), zz33, (.cells [zz27, (zz1 bz_25), (zz0 az_26), (zz0 ez_27)]), zz100, (zz89 (pfL v) (pfL v_24)), (zz96 v), (zz95 v_24), zz91, (zzy20 v_19)], []⟩
 else Q (zz98 (pfL v) (pfL v_24)) ⟨[(zz32 cs), (zz97 (pfL v) (pfL v_24)), zz33, (.cells [zz27, (zz1 bz_25), (zz0 az_26), (zz0 ez_27)]), zz100, (zz97 (pfL v) (pfL v_24)), (zz96 v), (zz95 v_24), zz91, (zzy20 v_19)], []⟩))))))
 else Q zz88 ⟨[(zz32 cs), zz101, zz86, (.cells [zz27, (zz1 bz_25), (zz0 az_26), (zz0 ez_27)]), zz100, (.cells [(zz11 (pfL v)), zz6, zz5, zz7, zz6, zz8, zz5]), (zz96 v), (zz95 v_24), zz101, zz86], []⟩))
 else Q zz88 ⟨[(zz32 cs), zz101, zz86, (.cells [zz27, (zz1 bz_25), (zz0 az_26), (zz0 ez_27)]), zz100, zz101, (zz96 v), zz101, zz86], []⟩))))))))))))))))))))))))))))))))))) := by kernel_rfl
abbrev zzy22 : TV := (zz59 [[(.val (.int .u8 0))], [(.val (.int .u8 4))]])
theorem ev_opR (cs : List TV) (off n : Nat) (pas : Int) (Q : TV → VT → Prop) : vcallF Tryz.prog noGl (specs [(wRdF, rdR), (wU8F, snU .i64 1), (wU16F, snU .i64 2), (wU32F, snU .u32 4), (wLeF, slW), (parF, paW)]) (tellS [(999999, .dead, none)]) 300 noLp 0 opF [.row 1 0 off n, .val (.int .i64 pas)] (zz149 (.row cs)) Q =
 (bif decide ((↑n : Int) < (10 : Int))
 then Q zz85 ⟨[(zz32 cs), zz84, zz83, zz84, zz83], []⟩
 else (((@Eq (Bool) true true) ∧
 RwOk (cs) (off) (n)) ∧
 (((@Eq (Bool) true true) ∧
 IsB (sbB cs off n)) ∧
 (∀ z : Int, (∀ bz : Bs, (∀ az : Int, (∀ ez : Int, (((@Eq (Int) (z) (nmB (1 : Nat) (sbB cs off n) (0 : Int))) ∧
 ((@Eq (Bs) (bz) (tkR (↑(1 : Nat) : Int) (sbB cs off n) (0 : Int))) ∧
 (@Eq (Int) (ez) (tkE (↑(1 : Nat) : Int) (sbB cs off n) (0 : Int))))) → (bif eqRes BinOp.neq (k6 z (4 : Int))
 then Q (.tup [zz73, (.agg [zz38, zz37, zzy22])]) ⟨[(zz32 cs), zz84, (.cells [zz38, zz37, zzy22]), (.cells [zz27, (zz1 bz), (zz0 az), (zz0 ez)]), zz84, (.cells [zz38, zz37, zzy22])], []⟩
 else (((@Eq (Bool) true true) ∧
 IsB (bz)) ∧
 (∀ z_10 : Int, (∀ bz_11 : Bs, (∀ az_12 : Int, (∀ ez_13 : Int, (((@Eq (Int) (z_10) (nmB (2 : Nat) bz ez)) ∧
 ((@Eq (Bs) (bz_11) (tkR (↑(2 : Nat) : Int) bz ez)) ∧
 (@Eq (Int) (ez_13) (tkE (↑(2 : Nat) : Int) bz ez)))) → (((@Eq (Bool) true true) ∧
 IsB (bz_11)) ∧
 (∀ z_15 : Int, (∀ bz_16 : Bs, (∀ az_17 : Int, (∀ ez_18 : Int, (((@Eq (Int) (z_15) (nmB (2 : Nat) bz_11 ez_13)) ∧
 ((@Eq (Bs) (bz_16) (tkR (↑(2 : Nat) : Int) bz_11 ez_13)) ∧
 (@Eq (Int) (ez_18) (tkE (↑(2 : Nat) : Int) bz_11 ez_13)))) → (((@Eq (Bool) true true) ∧
 IsB (bz_16)) ∧
 (∀ z_20 : Int, (∀ bz_21 : Bs, (∀ az_22 : Int, (∀ ez_23 : Int, (((@Eq (Int) (z_20) (nmB (4 : Nat) bz_16 ez_18)) ∧
 ((@Eq (Bs) (bz_21) (tkR (↑(4 : Nat) : Int) bz_16 ez_18)) ∧
 (@Eq (Int) (ez_23) (tkE (↑(4 : Nat) : Int) bz_16 ez_18)))) → (((@Eq (Bool) true true) ∧
 IsB (bz_21)) ∧
 (∀ z_25 : Int, (∀ bz_26 : Bs, (∀ az_27 : Int, (∀ ez_28 : Int, (((@Eq (Int) (z_25) (nmB (1 : Nat) bz_21 ez_23)) ∧
 ((@Eq (Bs) (bz_26) (tkR (↑(1 : Nat) : Int) bz_21 ez_23)) ∧
 (@Eq (Int) (ez_28) (tkE (↑(1 : Nat) : Int) bz_21 ez_23)))) → (bif eqRes BinOp.eql (k6 z_10 (0 : Int))
 then Q zz82 ⟨[(zz32 cs), zz84, zz81, (.cells [zz27, (zz1 bz_26), (zz0 az_27), (zz0 ez_28)]), (zz80 z_10 z_15 z_20), zz84, zz81], []⟩
 else (bif decide (pas ≥ (1 : Int))
 then (bif eqRes BinOp.neq (k6 z_10 pas)
 then Q zz82 ⟨[(zz32 cs), zz84, zz81, (.cells [zz27, (zz1 bz_26), (zz0 az_27), (zz0 ez_28)]), (zz80 z_10 z_15 z_20), zz84, zz81], []⟩
 else (bif eqRes BinOp.eql (k6 z_15 (0 : Int))
 then (bif eqRes BinOp.eql (keyEq (Value.int IntKind.u32 z_20) (Value.int IntKind.u32 (0 : Int)))
 then Q zz79 ⟨[(zz32 cs), zz84, zz78, (.cells [zz27, (zz1 bz_26), (zz0 az_27), (zz0 ez_28)]), (zz80 z_10 z_15 z_20), zz84, zz78], []⟩
 else (((@Eq (Bool) true true) ∧
 IsB (bz_26)) ∧
 (bif eqRes BinOp.neq (k6 z_25 (leB bz_26 ez_28))
 then Q zz85 ⟨[(zz32 cs), zz84, zz83, (.cells [zz27, (zz1 bz_26), (zz0 az_27), (zz0 ez_28)]), (zz80 z_10 z_15 z_20), zz84, zz83], []⟩
 else (((@Eq (Bool) true true) ∧
 IsB (bz_26)) ∧
 (∀ bz_30 : Bs, (∀ az_31 : Int, (∀ ez_32 : Int, (bif paO bz_26 ez_28
 then Q (zz77 z_10 z_15 z_20 (paL bz_26 ez_28)) ⟨[(zz32 cs), (zz17 z_10 z_15 z_20 (paL bz_26 ez_28)), zz33, (.cells [zz27, (zz1 bz_30), (zz0 az_31), (zz0 ez_32)]), (zz17 z_10 z_15 z_20 (paL bz_26 ez_28))], []⟩
 else Q (zz76 (paS bz_26 ez_28)) ⟨[(zz32 cs), zz84, (zz75 (paS bz_26 ez_28)), (.cells [zz27, (zz1 bz_30), (zz0 az_31), (zz0 ez_32)]), (zz80 z_10 z_15 z_20), zz84, (zz75 (paS bz_26 ez_28))], []⟩))))))))
 else (bif decide (z_15 ≥ (3 : Int))
 then (bif !decide (z_15 ≤ (65535 : Int))
 then Q zz74 ⟨[(zz32 cs), zz84, zz72, (.cells [zz27, (zz1 bz_26), (zz0 az_27), (zz0 ez_28)]), (zz80 z_10 z_15 z_20), zz84, zz72], []⟩
 else (bif eqRes BinOp.eql (keyEq (Value.int IntKind.u32 z_20) (Value.int IntKind.u32 (0 : Int)))
 then Q zz79 ⟨[(zz32 cs), zz84, zz78, (.cells [zz27, (zz1 bz_26), (zz0 az_27), (zz0 ez_28)]), (zz80 z_10 z_15 z_20), zz84, zz78], []⟩
 else (((@Eq (Bool) true true) ∧
 IsB (bz_26)) ∧
 (bif eqRes BinOp.neq (k6 z_25 (leB bz_26 ez_28))
 then Q zz85 ⟨[(zz32 cs), zz84, zz83, (.cells [zz27, (zz1 bz_26), (zz0 az_27), (zz0 ez_28)]), (zz80 z_10 z_15 z_20), zz84, zz83], []⟩
 else (((@Eq (Bool) true true) ∧
 IsB (bz_26)) ∧
 (∀ bz_30 : Bs, (∀ az_31 : Int, (∀ ez_32 : Int, (bif paO bz_26 ez_28
 then Q (zz77 z_10 z_15 z_20 (paL bz_26 ez_28)) ⟨[(zz32 cs), (zz17 z_10 z_15 z_20 (paL bz_26 ez_28)), zz33, (.cells [zz27, (zz1 bz_30), (zz0 az_31), (zz0 ez_32)]), (zz17 z_10 z_15 z_20 (paL bz_26 ez_28))], []⟩
 else Q (zz76 (paS bz_26 ez_28)) ⟨[(zz32 cs), zz84, (zz75 (paS bz_26 ez_28)), (.cells [zz27, (zz1 bz_30), (zz0 az_31), (zz0 ez_32)]), (zz80 z_10 z_15 z_20), zz84, (zz75 (paS bz_26 ez_28))], []⟩)))))))))
 else Q zz74 ⟨[(zz32 cs), zz84, zz72, (.cells [zz27, (zz1 bz_26), (zz0 az_27), (zz0 ez_28)]), (zz80 z_10 z_15 z_20), zz84, zz72], []⟩)))
 else (bif eqRes BinOp.eql (k6 z_15 (0 : Int))
 then (bif eqRes BinOp.eql (keyEq (Value.int IntKind.u32 z_20) (Value.int IntKind.u32 (0 : Int)))
 then Q zz79 ⟨[(zz32 cs), zz84, zz78, (.cells [zz27, (zz1 bz_26), (zz0 az_27), (zz0 ez_28)]), (zz80 z_10 z_15 z_20), zz84, zz78], []⟩
 else (((@Eq (Bool) true true) ∧
 IsB (bz_26)) ∧
 (bif eqRes BinOp.neq (k6 z_25 (leB bz_26 ez_28))
 then Q zz85 ⟨[(zz32 cs), zz84, zz83, (.cells [zz27, (zz1 bz_26), (zz0 az_27), (zz0 ez_28)]), (zz80 z_10 z_15 z_20), zz84, zz83], []⟩
 else (((@Eq (Bool) true true) ∧
 IsB (bz_26)) ∧
 (∀ bz_30 : Bs, (∀ az_31 : Int, (∀ ez_32 : Int, (bif paO bz_26 ez_28
 then Q (zz77 z_10 z_15 z_20 (paL bz_26 ez_28)) ⟨[(zz32 cs), (zz17 z_10 z_15 z_20 (paL bz_26 ez_28)), zz33, (.cells [zz27, (zz1 bz_30), (zz0 az_31), (zz0 ez_32)]), (zz17 z_10 z_15 z_20 (paL bz_26 ez_28))], []⟩
 else Q (zz76 (paS bz_26 ez_28)) ⟨[(zz32 cs), zz84, (zz75 (paS bz_26 ez_28)), (.cells [zz27, (zz1 bz_30), (zz0 az_31), (zz0 ez_32)]), (zz80 z_10 z_15 z_20), zz84, (zz75 (paS bz_26 ez_28))], []⟩))))))))
 else (bif decide (z_15 ≥ (3 : Int))
 then (bif !decide (z_15 ≤ (65535 : Int))
 then Q zz74 ⟨[(zz32 cs), zz84, zz72, (.cells [zz27, (zz1 bz_26), (zz0 az_27), (zz0 ez_28)]), (zz80 z_10 z_15 z_20), zz84, zz72], []⟩
 else (bif eqRes BinOp.eql (keyEq (Value.int IntKind.u32 z_20) (Value.int IntKind.u32 (0 : Int)))
 then Q zz79 ⟨[(zz32 cs), zz84, zz78, (.cells [zz27, (zz1 bz_26), (zz0 az_27), (zz0 ez_28)]), (zz80 z_10 z_15 z_20), zz84, zz78], []⟩
 else (((@Eq (Bool) true true) ∧
 IsB (bz_26)) ∧
 (bif eqRes BinOp.neq (k6 z_25 (leB bz_26 ez_28))
 then Q zz85 ⟨[(zz32 cs), zz84, zz83, (.cells [zz27, (zz1 bz_26), (zz0 az_27), (zz0 ez_28)]), (zz80 z_10 z_15 z_20), zz84, zz83], []⟩
 else (((@Eq (Bool) true true) ∧
 IsB (bz_26)) ∧
 (∀ bz_30 : Bs, (∀ az_31 : Int, (∀ ez_32 : Int, (bif paO bz_26 ez_28
 then Q (zz77 z_10 z_15 z_20 (paL bz_26 ez_28)) ⟨[(zz32 cs), (zz17 z_10 z_15 z_20 (paL bz_26 ez_28)), zz33, (.cells [zz27, (zz1 bz_30), (zz0 az_31), (zz0 ez_32)]), (zz17 z_10 z_15 z_20 (paL bz_26 ez_28))], []⟩
 else Q (zz76 (paS bz_26 ez_28)) ⟨[(zz32 cs), zz84, (zz75 (paS bz_26 ez_28)), (.cells [zz27, (zz1 bz_30), (zz0 az_31), (zz0 ez_32)]), (zz80 z_10 z_15 z_20), zz84, (zz75 (paS bz_26 ez_28))], []⟩)))))))))
 else Q zz74 ⟨[(zz32 cs), zz84, zz72, (.cells [zz27, (zz1 bz_26), (zz0 az_27), (zz0 ez_28)]), (zz80 z_10 z_15 z_20), zz84, zz72], []⟩))))))))))))))))))))))))))))))))))))) := by kernel_rfl
theorem ev_wrdR (cs : List TV) (off n : Nat) (Q : TV → VT → Prop) : vcallF Tryz.prog noGl (specs [(clF, clR)]) noOra 300 noLp 0 wRdF [.row 1 0 off n] (zz149 (.row cs)) Q =
 (((@Eq (Bool) true true) ∧
 RwOk (cs) (off) (n)) ∧
 Q zz20 ⟨[(zz32 cs), (.cells [zz27, (zz1 (sbB cs off n)), zz6, zz6])], []⟩) := by kernel_rfl
theorem ev_clR (cs W : List TV) (off n : Nat) (Q : TV → VT → Prop) : vcallF Tryz.prog noGl noSp (tellS [(7, .row 1 1 0 n, some fun T => T.newRow W)]) 300 noLp 0 clF [.row 1 0 off n] (zz149 (.row cs)) Q =
 (OTurn Tryz.prog (fun _ => .none) 0 (zz70 cs) (.call ⟨(.builtin .append), #[(.tmp 5), (.tmp 6)], #[22, 22]⟩) [(5, zz150), (6, (.row 1 0 off n))] (zz69 n) ⟨[(zz32 cs), (zz32 W)], []⟩ ∧
 Q (zz69 n) ⟨[(zz32 cs), (zz32 W)], []⟩) := by kernel_rfl
theorem ev_clR0 (cs : List TV) (off : Nat) (Q : TV → VT → Prop) : vcallF Tryz.prog noGl noSp (tellS [(7, .vec 1 [] .full, some fun T => T)]) 300 noLp 0 clF [.row 1 0 off 0] (zz149 (.row cs)) Q =
 (OTurn Tryz.prog (fun _ => .none) 0 (zz70 cs) (.call ⟨(.builtin .append), #[(.tmp 5), (.tmp 6)], #[22, 22]⟩) [(5, zz150), (6, (.row 1 0 off 0))] zz150 (zz70 cs) ∧
 Q zz150 (zz70 cs)) := by kernel_rfl
end Go.Proofs.YtogbdjlelkepcaaGreatDoor
namespace Go.Proofs.YtogbdjlelkepcaaGreatDoor
open Go.RowKit

abbrev g16F := 44
def g16R : Spec := fun ro ys T K => match ys with
 | [.row 1 k off n, .val (.int .i64 16)] => match T.objs[k]? with
  | some (.row cs) => (Nat.ble ro k = true ∧ RwOk cs off n ∧ Nat.ble 19 n = true ∧ off = 0) ∧ K (.tup [.val (.int .i64 (hzN (sbB cs off n))), .val (.bool true)]) T
  | _ => vbad 80 default ys
 | _ => vbad 86 default ys
def hdR : Spec := fun ro ys T K => match ys with
 | [.row 1 k off n] => match T.objs[k]? with
  | some (.row cs) => (Nat.ble ro k = true ∧ RwOk cs off n ∧ Nat.ble 19 n = true ∧ off = 0) ∧ bif hdOk (sbB cs off n) then K (.tup [.val (.int .i64 (hdN (sbB cs off n))), .val (.int .i64 (hdK (sbB cs off n))), ftT 0 0 []]) T else K (.tup [.val (.int .i64 0), .val (.int .i64 0), ftT 1 (hdS (sbB cs off n)) (hdD (sbB cs off n))]) T
  | _ => vbad 80 default ys
 | _ => vbad 83 default ys
def opR : Spec := fun ro ys T K => match ys with
 | [.row 1 k off n, .val (.int .i64 pas)] => match T.objs[k]? with
  | some (.row cs) => (Nat.ble ro k = true ∧ RwOk cs off n) ∧ bif opOk (sbB cs off n) pas then K (.tup [.agg [.val (.int .i64 (opAs (sbB cs off n) pas)), .val (.int .i64 (opHo (sbB cs off n) pas)), .val (.int .u32 (opId (sbB cs off n) pas)), .vec 2 (opCp (sbB cs off n) pas) .none], ftT 0 0 []]) T else K (.tup [.agg [.val (.int .i64 0), .val (.int .i64 0), .val (.int .u32 0), .vec 2 [] .none], ftT 2 (opSb (sbB cs off n) pas) (opDt (sbB cs off n) pas)]) T
  | _ => vbad 80 default ys
 | _ => vbad 83 default ys
def upR : Spec := fun ro ys T K => match ys with
 | [.row 1 k off n] => match T.objs[k]? with
  | some (.row cs) => (Nat.ble ro k = true ∧ RwOk cs off n) ∧ bif upOk (sbB cs off n) then K (.tup [.agg [.vec 2 (upcW (sbB cs off n)) .none, .val (.int .i64 (upcO (sbB cs off n))), .vec 1 (upcX (sbB cs off n)) .none, .val (.int .u32 (upcH (sbB cs off n))), .val (.int .i64 (upcM (sbB cs off n))), .val (.bool (upcB (sbB cs off n))), .vec 2 (upcN (sbB cs off n)) .none], ftT 0 0 []]) T
   else K (.tup [.agg [.vec 2 [] .none, .val (.int .i64 0), .vec 1 [] .none, .val (.int .u32 0), .val (.int .i64 0), .val (.bool false), .vec 2 [] .none], ftT 3 (upSb (sbB cs off n)) (upDt (sbB cs off n))]) T
  | _ => vbad 80 default ys
 | _ => vbad 83 default ys
def ntR : Spec := fun ro ys T K => match ys with
 | [.row 1 k off n] => match T.objs[k]? with
  | some (.row cs) => (Nat.ble ro k = true ∧ RwOk cs off n ∧ off = 19 ∧ Nat.ble 2 n = true) ∧ bif ntO (sbB cs off n) then K (.tup [ftT (ntC (sbB cs off n)) (ntS (sbB cs off n)) (ntD (sbB cs off n)), .val (.bool true)]) T else K (.tup [ftT 0 0 [], .val (.bool false)]) T
  | _ => vbad 80 default ys
 | _ => vbad 83 default ys
def r19 (c0 c1 c2 c3 c4 c5 c6 c7 c8 c9 c10 c11 c12 c13 c14 c15 c16 c17 c18 : TV) (w : List TV) : List TV := c0 :: c1 :: c2 :: c3 :: c4 :: c5 :: c6 :: c7 :: c8 :: c9 :: c10 :: c11 :: c12 :: c13 :: c14 :: c15 :: c16 :: c17 :: c18 :: w
def u19 (z0 z1 z2 z3 z4 z5 z6 z7 z8 z9 z10 z11 z12 z13 z14 z15 z16 z17 z18 : Int) (w : List TV) : List TV := .val (.int .u8 z0) :: .val (.int .u8 z1) :: .val (.int .u8 z2) :: .val (.int .u8 z3) :: .val (.int .u8 z4) :: .val (.int .u8 z5) :: .val (.int .u8 z6) :: .val (.int .u8 z7) :: .val (.int .u8 z8) :: .val (.int .u8 z9) :: .val (.int .u8 z10) :: .val (.int .u8 z11) :: .val (.int .u8 z12) :: .val (.int .u8 z13) :: .val (.int .u8 z14) :: .val (.int .u8 z15) :: .val (.int .u8 z16) :: .val (.int .u8 z17) :: .val (.int .u8 z18) :: w
abbrev zzy23 (c0 : TV) (c1 : TV) (c2 : TV) (c3 : TV) (c4 : TV) (c5 : TV) (c6 : TV) (c7 : TV) (c8 : TV) (c9 : TV) (c10 : TV) (c11 : TV) (c12 : TV) (c13 : TV) (c14 : TV) (c15 : TV) (c16 : TV) (c17 : TV) (c18 : TV) (z0 : Int) (z1 : Int) (w : List TV) (m : Nat) : VT := (zz67 ([(c0), (c1), (c2), (c3), (c4), (c5), (c6), (c7), (c8), (c9), (c10), (c11), (c12), (c13), (c14), (c15), (c16), (c17), (c18), (.val (.int .u8 (z0))), (.val (.int .u8 (z1)))] ++ w) (IntKind.wrap IntKind.i64 z0) (IntKind.wrap IntKind.i64 z1) (sbB (r19 c0 c1 c2 c3 c4 c5 c6 c7 c8 c9 c10 c11 c12 c13 c14 c15 c16 c17 c18 (TV.val (Value.int IntKind.u8 z0) :: TV.val (Value.int IntKind.u8 z1) :: w)) (21 : Nat) m) (IntKind.wrap IntKind.i64 z0) (IntKind.wrap IntKind.i64 z1) (sbB (r19 c0 c1 c2 c3 c4 c5 c6 c7 c8 c9 c10 c11 c12 c13 c14 c15 c16 c17 c18 (TV.val (Value.int IntKind.u8 z0) :: TV.val (Value.int IntKind.u8 z1) :: w)) (21 : Nat) m))
abbrev zzy24 (z0 : Int) (z1 : Int) (c0 : TV) (c1 : TV) (c2 : TV) (c3 : TV) (c4 : TV) (c5 : TV) (c6 : TV) (c7 : TV) (c8 : TV) (c9 : TV) (c10 : TV) (c11 : TV) (c12 : TV) (c13 : TV) (c14 : TV) (c15 : TV) (c16 : TV) (c17 : TV) (c18 : TV) (w : List TV) (m : Nat) : VO := (zz2 (IntKind.wrap IntKind.i64 z0) (IntKind.wrap IntKind.i64 z1) (sbB (r19 c0 c1 c2 c3 c4 c5 c6 c7 c8 c9 c10 c11 c12 c13 c14 c15 c16 c17 c18 (TV.val (Value.int IntKind.u8 z0) :: TV.val (Value.int IntKind.u8 z1) :: w)) (21 : Nat) m))
theorem ev_ntR (c0 c1 c2 c3 c4 c5 c6 c7 c8 c9 c10 c11 c12 c13 c14 c15 c16 c17 c18 : TV) (z0 z1 : Int) (w : List TV) (m : Nat) (Q : TV → VT → Prop) : vcallF Tryz.prog noGl (specs [(clF, clR)]) (tellS [(999998, .dead, none), (10, .ptr 0 19, none), (14, .ptr 0 20, none), (18, .row 1 0 21 m, none)]) 300 noLp 0 ntF [.row 1 0 19 (m + 2)] (zz149 (.row (r19 c0 c1 c2 c3 c4 c5 c6 c7 c8 c9 c10 c11 c12 c13 c14 c15 c16 c17 c18 (.val (.int .u8 z0) :: .val (.int .u8 z1) :: w)))) Q =
 (OPure Tryz.prog (fun _ => .none) (.indexAddr 22 (.tmp 9) (.const (.int .i64 0))) [(9, (.row 1 0 19 (m + (2 : Nat))))] (.ptr 0 19) ∧
 (OPure Tryz.prog (fun _ => .none) (.indexAddr 22 (.tmp 13) (.const (.int .i64 1))) [(13, (.row 1 0 19 (m + (2 : Nat))))] (.ptr 0 20) ∧
 (OPure Tryz.prog (fun _ => .none) (.slice 22 (.tmp 17) (.some (.const (.int .i64 2))) .none .none) [(17, (.row 1 0 19 (m + (2 : Nat))))] (.row 1 0 21 m) ∧
 (((@Eq (Bool) true true) ∧
 RwOk ([(c0), (c1), (c2), (c3), (c4), (c5), (c6), (c7), (c8), (c9), (c10), (c11), (c12), (c13), (c14), (c15), (c16), (c17), (c18), (zz52 z0), (zz52 z1)] ++ w) 21 (m)) ∧
 (((@Eq (Option TV) (.some (zz52 z1)) (.some (zz52 z1))) ∧
 ((@Eq (Option TV) (.some (zz52 z0)) (.some (zz52 z0))) ∧
 True )) ∧
 (bif decide (IntKind.wrap IntKind.i64 z0 ≥ (1 : Int))
 then (bif decide (IntKind.wrap IntKind.i64 z0 ≤ (255 : Int))
 then (bif decide (IntKind.wrap IntKind.i64 z1 ≥ (0 : Int))
 then (bif decide (IntKind.wrap IntKind.i64 z1 ≤ (255 : Int))
 then (bif !decide ((↑(List.length (sbB (r19 c0 c1 c2 c3 c4 c5 c6 c7 c8 c9 c10 c11 c12 c13 c14 c15 c16 c17 c18 (TV.val (Value.int IntKind.u8 z0) :: TV.val (Value.int IntKind.u8 z1) :: w)) (21 : Nat) m)) : Int) ≤ (4075 : Int))
 then Q zz68 (zzy23 c0 c1 c2 c3 c4 c5 c6 c7 c8 c9 c10 c11 c12 c13 c14 c15 c16 c17 c18 z0 z1 w m)
 else Q (.tup [(zz66 (IntKind.wrap IntKind.i64 z0) (IntKind.wrap IntKind.i64 z1) (sbB (r19 c0 c1 c2 c3 c4 c5 c6 c7 c8 c9 c10 c11 c12 c13 c14 c15 c16 c17 c18 (TV.val (Value.int IntKind.u8 z0) :: TV.val (Value.int IntKind.u8 z1) :: w)) (21 : Nat) m)), zz27]) ⟨[(zz32 ([(c0), (c1), (c2), (c3), (c4), (c5), (c6), (c7), (c8), (c9), (c10), (c11), (c12), (c13), (c14), (c15), (c16), (c17), (c18), (.val (.int .u8 (z0))), (.val (.int .u8 (z1)))] ++ w)), (zzy24 z0 z1 c0 c1 c2 c3 c4 c5 c6 c7 c8 c9 c10 c11 c12 c13 c14 c15 c16 c17 c18 w m), (zzy24 z0 z1 c0 c1 c2 c3 c4 c5 c6 c7 c8 c9 c10 c11 c12 c13 c14 c15 c16 c17 c18 w m), (zzy24 z0 z1 c0 c1 c2 c3 c4 c5 c6 c7 c8 c9 c10 c11 c12 c13 c14 c15 c16 c17 c18 w m)], []⟩)
 else Q zz68 (zzy23 c0 c1 c2 c3 c4 c5 c6 c7 c8 c9 c10 c11 c12 c13 c14 c15 c16 c17 c18 z0 z1 w m))
 else Q zz68 (zzy23 c0 c1 c2 c3 c4 c5 c6 c7 c8 c9 c10 c11 c12 c13 c14 c15 c16 c17 c18 z0 z1 w m))
 else Q zz68 (zzy23 c0 c1 c2 c3 c4 c5 c6 c7 c8 c9 c10 c11 c12 c13 c14 c15 c16 c17 c18 z0 z1 w m))
 else Q zz68 (zzy23 c0 c1 c2 c3 c4 c5 c6 c7 c8 c9 c10 c11 c12 c13 c14 c15 c16 c17 c18 z0 z1 w m))))))) := by kernel_rfl
abbrev zzy25 (z0 : Int) (z1 : Int) (z2 : Int) (z3 : Int) (z4 : Int) (z5 : Int) (z6 : Int) (z7 : Int) (z8 : Int) (z9 : Int) (z10 : Int) (z11 : Int) (z12 : Int) (z13 : Int) (z14 : Int) (z15 : Int) (z16 : Int) (z17 : Int) (z18 : Int) (w : List TV) : VT := (zz70 ([(.val (.int .u8 (z0))), (.val (.int .u8 (z1))), (.val (.int .u8 (z2))), (.val (.int .u8 (z3))), (.val (.int .u8 (z4))), (.val (.int .u8 (z5))), (.val (.int .u8 (z6))), (.val (.int .u8 (z7))), (.val (.int .u8 (z8))), (.val (.int .u8 (z9))), (.val (.int .u8 (z10))), (.val (.int .u8 (z11))), (.val (.int .u8 (z12))), (.val (.int .u8 (z13))), (.val (.int .u8 (z14))), (.val (.int .u8 (z15))), (.val (.int .u8 (z16))), (.val (.int .u8 (z17))), (.val (.int .u8 (z18)))] ++ w))
theorem ev_g16 (z0 z1 z2 z3 z4 z5 z6 z7 z8 z9 z10 z11 z12 z13 z14 z15 z16 z17 z18 : Int) (w : List TV) (m : Nat) (Q : TV → VT → Prop) : vcallF Tryz.prog noGl noSp (tellS [(12, .row 1 0 16 (m + 3), none)]) 300 noLp 0 g16F [.row 1 0 0 (m + 19), .val (.int .i64 16)] (zz149 (.row (u19 z0 z1 z2 z3 z4 z5 z6 z7 z8 z9 z10 z11 z12 z13 z14 z15 z16 z17 z18 w))) Q =
 (bif !decide ((16 : Int) ≤ IntKind.wrap IntKind.i64 ((↑(m + (19 : Nat)) : Int) - (2 : Int)))
 then Q (.tup [zz6, zz8]) (zzy25 z0 z1 z2 z3 z4 z5 z6 z7 z8 z9 z10 z11 z12 z13 z14 z15 z16 z17 z18 w)
 else (OPure Tryz.prog (fun _ => .none) (.slice 22 (.tmp 10) (.some (.tmp 11)) .none .none) [(10, (.row 1 0 0 (m + (19 : Nat)))), (11, (.val (.int .i64 16)))] (.row 1 0 16 (m + (3 : Nat))) ∧
 Q (.tup [(zz0 (IntKind.wrap IntKind.i64
  (IntKind.wrap IntKind.u64
    (↑(BitVec.toNat
          (BitVec.ofInt (IntKind.bits IntKind.u64)
              (IntKind.wrap IntKind.u64 (IntKind.wrap IntKind.u64 (↑(BitVec.toNat (BitVec.ofInt (IntKind.bits IntKind.u64) (IntKind.wrap IntKind.u64 ((0 : Int) * (2 : Int) ^ min (Int.toNat (8 : Int)) (IntKind.bits IntKind.u64))) ||| BitVec.ofInt (IntKind.bits IntKind.u64) (IntKind.wrap IntKind.u64 z16))) : Int) * (2 : Int) ^ min (Int.toNat (8 : Int)) (IntKind.bits IntKind.u64))) |||
            BitVec.ofInt (IntKind.bits IntKind.u64) (IntKind.wrap IntKind.u64 z17))) :
      Int)))), zz27]) (zzy25 z0 z1 z2 z3 z4 z5 z6 z7 z8 z9 z10 z11 z12 z13 z14 z15 z16 z17 z18 w))) := by kernel_rfl
abbrev zzy26 (z0 : Int) (z1 : Int) (z2 : Int) (z3 : Int) (z4 : Int) (z5 : Int) (z6 : Int) (z7 : Int) (z8 : Int) (z9 : Int) (z10 : Int) (z11 : Int) (z12 : Int) (z13 : Int) (z14 : Int) (z15 : Int) (z16 : Int) (z17 : Int) (z18 : Int) (w : List TV) : VT := (zz62 ([(.val (.int .u8 (z0))), (.val (.int .u8 (z1))), (.val (.int .u8 (z2))), (.val (.int .u8 (z3))), (.val (.int .u8 (z4))), (.val (.int .u8 (z5))), (.val (.int .u8 (z6))), (.val (.int .u8 (z7))), (.val (.int .u8 (z8))), (.val (.int .u8 (z9))), (.val (.int .u8 (z10))), (.val (.int .u8 (z11))), (.val (.int .u8 (z12))), (.val (.int .u8 (z13))), (.val (.int .u8 (z14))), (.val (.int .u8 (z15))), (.val (.int .u8 (z16))), (.val (.int .u8 (z17))), (.val (.int .u8 (z18)))] ++ w) z16 z17)
abbrev zzy27 (z0 : Int) (z1 : Int) (z2 : Int) (z3 : Int) (z4 : Int) (z5 : Int) (z6 : Int) (z7 : Int) (z8 : Int) (z9 : Int) (z10 : Int) (z11 : Int) (z12 : Int) (z13 : Int) (z14 : Int) (z15 : Int) (z16 : Int) (z17 : Int) (z18 : Int) (w : List TV) : VT := (zz60 ([(.val (.int .u8 (z0))), (.val (.int .u8 (z1))), (.val (.int .u8 (z2))), (.val (.int .u8 (z3))), (.val (.int .u8 (z4))), (.val (.int .u8 (z5))), (.val (.int .u8 (z6))), (.val (.int .u8 (z7))), (.val (.int .u8 (z8))), (.val (.int .u8 (z9))), (.val (.int .u8 (z10))), (.val (.int .u8 (z11))), (.val (.int .u8 (z12))), (.val (.int .u8 (z13))), (.val (.int .u8 (z14))), (.val (.int .u8 (z15))), (.val (.int .u8 (z16))), (.val (.int .u8 (z17))), (.val (.int .u8 (z18)))] ++ w) [[(.val (.int .u8 (z18)))]] z16 z17 [[(.val (.int .u8 (z18)))]])
abbrev zzy28 (z0 : Int) (z1 : Int) (z2 : Int) (z3 : Int) (z4 : Int) (z5 : Int) (z6 : Int) (z7 : Int) (z8 : Int) (z9 : Int) (z10 : Int) (z11 : Int) (z12 : Int) (z13 : Int) (z14 : Int) (z15 : Int) (z16 : Int) (z17 : Int) (z18 : Int) (w : List TV) : VT := (zz56 ([(.val (.int .u8 (z0))), (.val (.int .u8 (z1))), (.val (.int .u8 (z2))), (.val (.int .u8 (z3))), (.val (.int .u8 (z4))), (.val (.int .u8 (z5))), (.val (.int .u8 (z6))), (.val (.int .u8 (z7))), (.val (.int .u8 (z8))), (.val (.int .u8 (z9))), (.val (.int .u8 (z10))), (.val (.int .u8 (z11))), (.val (.int .u8 (z12))), (.val (.int .u8 (z13))), (.val (.int .u8 (z14))), (.val (.int .u8 (z15))), (.val (.int .u8 (z16))), (.val (.int .u8 (z17))), (.val (.int .u8 (z18)))] ++ w) z16 z17)
theorem ev_hdR (z0 z1 z2 z3 z4 z5 z6 z7 z8 z9 z10 z11 z12 z13 z14 z15 z16 z17 z18 x : Int) (r w : List TV) (m : Nat) (Q : TV → VT → Prop) : vcallF Tryz.prog leastG (specs [(g16F, g16R)]) (tellS [(999998, .dead, none), (24, .ptr 0 18, none), (61, .ptr 0 18, none), (71, .elt (.val (.int .i64 x) :: r), none)]) 300 noLp 0 hdF [.row 1 0 0 (m + 19)] (zz149 (.row (u19 z0 z1 z2 z3 z4 z5 z6 z7 z8 z9 z10 z11 z12 z13 z14 z15 z16 z17 z18 w))) Q =
 (((@Eq (Bool) true true) ∧
 (RwOk ([(zz52 z0), (zz52 z1), (zz52 z2), (zz52 z3), (zz52 z4), (zz52 z5), (zz52 z6), (zz52 z7), (zz52 z8), (zz52 z9), (zz52 z10), (zz52 z11), (zz52 z12), (zz52 z13), (zz52 z14), (zz52 z15), (zz52 z16), (zz52 z17), (zz52 z18)] ++ w) 0 (m + (19 : Nat)) ∧
 ((@Eq (Bool) true true) ∧
 (@Eq (Nat) 0 0)))) ∧
 (OPure Tryz.prog (fun kk => (bif Nat.beq kk (0 : Nat) then (.some zz65) else .none)) (.indexAddr 22 (.tmp 23) (.const (.int .i64 18))) [(23, (.row 1 0 0 (m + (19 : Nat))))] (.ptr 0 18) ∧
 (((@Eq (Option TV) (.some (.agg [(zz52 z0), (zz52 z1), (zz52 z2), (zz52 z3), (zz52 z4), (zz52 z5), (zz52 z6), (zz52 z7), (zz52 z8), (zz52 z9), (zz52 z10), (zz52 z11), (zz52 z12), (zz52 z13), (zz52 z14), (zz52 z15)])) (.some (.agg [(zz52 z0), (zz52 z1), (zz52 z2), (zz52 z3), (zz52 z4), (zz52 z5), (zz52 z6), (zz52 z7), (zz52 z8), (zz52 z9), (zz52 z10), (zz52 z11), (zz52 z12), (zz52 z13), (zz52 z14), (zz52 z15)]))) ∧
 True ) ∧
 (bif eqRes BinOp.neq
  (keyEq
    ((fun vs => Value.agg (List.toArray vs))
      ((fun x => Value.int IntKind.u8 z0 :: x)
        ((fun x => Value.int IntKind.u8 z1 :: x)
          ((fun x => Value.int IntKind.u8 z2 :: x)
            ((fun x => Value.int IntKind.u8 z3 :: x)
              ((fun x => Value.int IntKind.u8 z4 :: x)
                ((fun x => Value.int IntKind.u8 z5 :: x)
                  ((fun x => Value.int IntKind.u8 z6 :: x)
                    ((fun x => Value.int IntKind.u8 z7 :: x)
                      ((fun x => Value.int IntKind.u8 z8 :: x) ((fun x => Value.int IntKind.u8 z9 :: x) ((fun x => Value.int IntKind.u8 z10 :: x) ((fun x => Value.int IntKind.u8 z11 :: x) ((fun x => Value.int IntKind.u8 z12 :: x) ((fun x => Value.int IntKind.u8 z13 :: x) ((fun x => Value.int IntKind.u8 z14 :: x) ((fun x => Value.int IntKind.u8 z15 :: x) [])))))))))))))))))
    ((fun vs => Value.agg (List.toArray vs))
      ((fun x => Value.int IntKind.u8 (255 : Int) :: x)
        ((fun x => Value.int IntKind.u8 (255 : Int) :: x)
          ((fun x => Value.int IntKind.u8 (255 : Int) :: x)
            ((fun x => Value.int IntKind.u8 (255 : Int) :: x)
              ((fun x => Value.int IntKind.u8 (255 : Int) :: x)
                ((fun x => Value.int IntKind.u8 (255 : Int) :: x)
                  ((fun x => Value.int IntKind.u8 (255 : Int) :: x)
                    ((fun x => Value.int IntKind.u8 (255 : Int) :: x)
                      ((fun x => Value.int IntKind.u8 (255 : Int) :: x)
                        ((fun x => Value.int IntKind.u8 (255 : Int) :: x) ((fun x => Value.int IntKind.u8 (255 : Int) :: x) ((fun x => Value.int IntKind.u8 (255 : Int) :: x) ((fun x => Value.int IntKind.u8 (255 : Int) :: x) ((fun x => Value.int IntKind.u8 (255 : Int) :: x) ((fun x => Value.int IntKind.u8 (255 : Int) :: x) ((fun x => Value.int IntKind.u8 (255 : Int) :: x) []))))))))))))))))))
 then Q (.tup [zz6, zz6, (.agg [zz37, zz37, zz5])]) ⟨[(zz32 ([(.val (.int .u8 (z0))), (.val (.int .u8 (z1))), (.val (.int .u8 (z2))), (.val (.int .u8 (z3))), (.val (.int .u8 (z4))), (.val (.int .u8 (z5))), (.val (.int .u8 (z6))), (.val (.int .u8 (z7))), (.val (.int .u8 (z8))), (.val (.int .u8 (z9))), (.val (.int .u8 (z10))), (.val (.int .u8 (z11))), (.val (.int .u8 (z12))), (.val (.int .u8 (z13))), (.val (.int .u8 (z14))), (.val (.int .u8 (z15))), (.val (.int .u8 (z16))), (.val (.int .u8 (z17))), (.val (.int .u8 (z18)))] ++ w)), zz64, (zz53 z16 z17), zz55, zz55, zz64], []⟩
 else (bif decide (hzN (sbB (u19 z0 z1 z2 z3 z4 z5 z6 z7 z8 z9 z10 z11 z12 z13 z14 z15 z16 z17 z18 w) (0 : Nat) (m + (19 : Nat))) < (19 : Int))
 then Q zz63 (zzy26 z0 z1 z2 z3 z4 z5 z6 z7 z8 z9 z10 z11 z12 z13 z14 z15 z16 z17 z18 w)
 else (bif decide (hzN (sbB (u19 z0 z1 z2 z3 z4 z5 z6 z7 z8 z9 z10 z11 z12 z13 z14 z15 z16 z17 z18 w) (0 : Nat) (m + (19 : Nat))) > (4096 : Int))
 then Q zz63 (zzy26 z0 z1 z2 z3 z4 z5 z6 z7 z8 z9 z10 z11 z12 z13 z14 z15 z16 z17 z18 w)
 else (bif decide (IntKind.wrap IntKind.i64 z18 < (1 : Int))
 then (OPure Tryz.prog (fun kk => (bif Nat.beq kk (0 : Nat) then (.some zz65) else .none)) (.indexAddr 22 (.tmp 60) (.const (.int .i64 18))) [(60, (.row 1 0 0 (m + (19 : Nat))))] (.ptr 0 18) ∧
 Q (zz61 [[(.val (.int .u8 (z18)))]]) (zzy27 z0 z1 z2 z3 z4 z5 z6 z7 z8 z9 z10 z11 z12 z13 z14 z15 z16 z17 z18 w))
 else (bif decide (IntKind.wrap IntKind.i64 z18 > (4 : Int))
 then (OPure Tryz.prog (fun kk => (bif Nat.beq kk (0 : Nat) then (.some zz65) else .none)) (.indexAddr 22 (.tmp 60) (.const (.int .i64 18))) [(60, (.row 1 0 0 (m + (19 : Nat))))] (.ptr 0 18) ∧
 Q (zz61 [[(.val (.int .u8 (z18)))]]) (zzy27 z0 z1 z2 z3 z4 z5 z6 z7 z8 z9 z10 z11 z12 z13 z14 z15 z16 z17 z18 w))
 else (OPure Tryz.prog (fun kk => (bif Nat.beq kk (0 : Nat) then (.some zz65) else .none)) (.indexAddr 112 (.global 0) (.tmp 70)) [(70, (zz0 (IntKind.wrap IntKind.i64 z18)))] (.elt ([(.val (.int .i64 (x)))] ++ r)) ∧
 (bif decide (hzN (sbB (u19 z0 z1 z2 z3 z4 z5 z6 z7 z8 z9 z10 z11 z12 z13 z14 z15 z16 z17 z18 w) (0 : Nat) (m + (19 : Nat))) < x)
 then Q zz63 (zzy26 z0 z1 z2 z3 z4 z5 z6 z7 z8 z9 z10 z11 z12 z13 z14 z15 z16 z17 z18 w)
 else (bif eqRes BinOp.eql (k6 (IntKind.wrap IntKind.i64 z18) (4 : Int))
 then (bif decide (hzN (sbB (u19 z0 z1 z2 z3 z4 z5 z6 z7 z8 z9 z10 z11 z12 z13 z14 z15 z16 z17 z18 w) (0 : Nat) (m + (19 : Nat))) > (19 : Int))
 then Q zz63 (zzy26 z0 z1 z2 z3 z4 z5 z6 z7 z8 z9 z10 z11 z12 z13 z14 z15 z16 z17 z18 w)
 else Q (zz57 (hzN (sbB (u19 z0 z1 z2 z3 z4 z5 z6 z7 z8 z9 z10 z11 z12 z13 z14 z15 z16 z17 z18 w) (0 : Nat) (m + (19 : Nat)))) (IntKind.wrap IntKind.i64 z18)) (zzy28 z0 z1 z2 z3 z4 z5 z6 z7 z8 z9 z10 z11 z12 z13 z14 z15 z16 z17 z18 w))
 else Q (zz57 (hzN (sbB (u19 z0 z1 z2 z3 z4 z5 z6 z7 z8 z9 z10 z11 z12 z13 z14 z15 z16 z17 z18 w) (0 : Nat) (m + (19 : Nat)))) (IntKind.wrap IntKind.i64 z18)) (zzy28 z0 z1 z2 z3 z4 z5 z6 z7 z8 z9 z10 z11 z12 z13 z14 z15 z16 z17 z18 w)))))))))))) := by kernel_rfl
abbrev zzy29 (BB : List TV) (m : Nat) : TV := (zz0 (hdK (sbB BB (0 : Nat) (m + (19 : Nat)))))
abbrev zzy30 (c0 : TV) (c1 : TV) (c2 : TV) (c3 : TV) (c4 : TV) (c5 : TV) (c6 : TV) (c7 : TV) (c8 : TV) (c9 : TV) (c10 : TV) (c11 : TV) (c12 : TV) (c13 : TV) (c14 : TV) (c15 : TV) (c16 : TV) (c17 : TV) (c18 : TV) (w : List TV) : VO := (zz32 ([(c0), (c1), (c2), (c3), (c4), (c5), (c6), (c7), (c8), (c9), (c10), (c11), (c12), (c13), (c14), (c15), (c16), (c17), (c18)] ++ w))
abbrev zzy31 (BB : List TV) (m : Nat) (pas : Int) : VO := (zz49 (hdK (sbB BB (0 : Nat) (m + (19 : Nat)))) (opAs (sbB BB (19 : Nat) m) pas) (opHo (sbB BB (19 : Nat) m) pas) (opId (sbB BB (19 : Nat) m) pas) (opCp (sbB BB (19 : Nat) m) pas))
abbrev zzy32 (BB : List TV) (m : Nat) : VO := (zz48 (hdK (sbB BB (0 : Nat) (m + (19 : Nat)))) (ntC (sbB BB (19 : Nat) m)) (ntS (sbB BB (19 : Nat) m)) (ntD (sbB BB (19 : Nat) m)))
theorem ev_mpR (c0 c1 c2 c3 c4 c5 c6 c7 c8 c9 c10 c11 c12 c13 c14 c15 c16 c17 c18 : TV) (w : List TV) (m : Nat) (pas : Int) (Q : TV → VT → Prop) : vcallF Tryz.prog leastG (specs [(hdF, hdR), (opF, opR), (upF, upR), (ntF, ntR)]) (tellS [(999999, .dead, none), (48, .row 1 0 19 m, none)]) 300 noLp 0 mpF [.row 1 0 0 (m + 19), .val (.int .i64 pas)] (zz149 (.row (r19 c0 c1 c2 c3 c4 c5 c6 c7 c8 c9 c10 c11 c12 c13 c14 c15 c16 c17 c18 w))) Q =
 (fun BB : List TV =>(((@Eq (Bool) true true) ∧
 (RwOk ([(c0), (c1), (c2), (c3), (c4), (c5), (c6), (c7), (c8), (c9), (c10), (c11), (c12), (c13), (c14), (c15), (c16), (c17), (c18)] ++ w) 0 (m + (19 : Nat)) ∧
 ((@Eq (Bool) true true) ∧
 (@Eq (Nat) 0 0)))) ∧
 (bif hdOk (sbB BB (0 : Nat) (m + (19 : Nat)))
 then (bif eqRes BinOp.neq (k6 (hdN (sbB BB (0 : Nat) (m + (19 : Nat)))) (↑(m + (19 : Nat)) : Int))
 then Q zz51 (zz50 ([(c0), (c1), (c2), (c3), (c4), (c5), (c6), (c7), (c8), (c9), (c10), (c11), (c12), (c13), (c14), (c15), (c16), (c17), (c18)] ++ w) c16 c17)
 else (OPure Tryz.prog (fun kk => (bif Nat.beq kk (0 : Nat) then (.some zz65) else .none)) (.slice 22 (.tmp 47) (.some (.const (.int .i64 19))) .none .none) [(47, (.row 1 0 0 (m + (19 : Nat))))] (.row 1 0 19 m) ∧
 (bif eqRes BinOp.eql (k6 (hdK (sbB BB (0 : Nat) (m + (19 : Nat)))) (1 : Int))
 then (((@Eq (Bool) true true) ∧
 RwOk ([(c0), (c1), (c2), (c3), (c4), (c5), (c6), (c7), (c8), (c9), (c10), (c11), (c12), (c13), (c14), (c15), (c16), (c17), (c18)] ++ w) 19 (m)) ∧
 (bif opOk (sbB BB (19 : Nat) m) pas
 then Q (.tup [(.agg [(zzy29 BB m), (zz0 (opAs (sbB BB (19 : Nat) m) pas)), (zz0 (opHo (sbB BB (19 : Nat) m) pas)), (zz4 (opId (sbB BB (19 : Nat) m) pas)), (zz11 (opCp (sbB BB (19 : Nat) m) pas)), zz5, zz6, zz5, zz7, zz6, zz8, zz5, zz6, zz6, zz5]), zz46]) ⟨[(zzy30 c0 c1 c2 c3 c4 c5 c6 c7 c8 c9 c10 c11 c12 c13 c14 c15 c16 c17 c18 w), (zzy31 BB m pas), zz33, zz43, zz44, (.row [c16, c17]), (zzy31 BB m pas)], []⟩
 else Q (.tup [zz40, (.agg [zz38, (zz0 (opSb (sbB BB (19 : Nat) m) pas)), (zz1 (opDt (sbB BB (19 : Nat) m) pas))])]) ⟨[(zzy30 c0 c1 c2 c3 c4 c5 c6 c7 c8 c9 c10 c11 c12 c13 c14 c15 c16 c17 c18 w), zz36, (.cells [zz38, (zz0 (opSb (sbB BB (19 : Nat) m) pas)), (zz1 (opDt (sbB BB (19 : Nat) m) pas))]), (.cells [zz38, (zz0 (opSb (sbB BB (19 : Nat) m) pas)), (zz1 (opDt (sbB BB (19 : Nat) m) pas))]), zz44, (.row [c16, c17]), (.cells [(zzy29 BB m), zz6, zz6, zz7, (.vec 2 [] .none), zz5, zz6, zz5, zz7, zz6, zz8, zz5, zz6, zz6, zz5])], []⟩))
 else (bif eqRes BinOp.eql (k6 (hdK (sbB BB (0 : Nat) (m + (19 : Nat)))) (2 : Int))
 then (((@Eq (Bool) true true) ∧
 RwOk ([(c0), (c1), (c2), (c3), (c4), (c5), (c6), (c7), (c8), (c9), (c10), (c11), (c12), (c13), (c14), (c15), (c16), (c17), (c18)] ++ w) 19 (m)) ∧
 (bif upOk (sbB BB (19 : Nat) m)
 then Q (.tup [(.agg [(zzy29 BB m), zz6, zz6, zz7, zz5, (zz11 (upcW (sbB BB (19 : Nat) m))), (zz0 (upcO (sbB BB (19 : Nat) m))), (zz1 (upcX (sbB BB (19 : Nat) m))), (zz4 (upcH (sbB BB (19 : Nat) m))), (zz0 (upcM (sbB BB (19 : Nat) m))), (zz12 (upcB (sbB BB (19 : Nat) m))), (zz11 (upcN (sbB BB (19 : Nat) m))), zz6, zz6, zz5]), zz46]) ⟨[(zzy30 c0 c1 c2 c3 c4 c5 c6 c7 c8 c9 c10 c11 c12 c13 c14 c15 c16 c17 c18 w), (.cells [(zzy29 BB m), zz6, zz6, zz7, zz5, (zz11 (upcW (sbB BB (19 : Nat) m))), (zz0 (upcO (sbB BB (19 : Nat) m))), (zz1 (upcX (sbB BB (19 : Nat) m))), (zz4 (upcH (sbB BB (19 : Nat) m))), (zz0 (upcM (sbB BB (19 : Nat) m))), (zz12 (upcB (sbB BB (19 : Nat) m))), (zz11 (upcN (sbB BB (19 : Nat) m))), zz6, zz6, zz5]), zz33, zz43, zz44, (.row [c16, c17]), (.cells [(zzy29 BB m), zz6, zz6, zz7, zz5, (zz11 (upcW (sbB BB (19 : Nat) m))), (zz0 (upcO (sbB BB (19 : Nat) m))), (zz1 (upcX (sbB BB (19 : Nat) m))), (zz4 (upcH (sbB BB (19 : Nat) m))), (zz0 (upcM (sbB BB (19 : Nat) m))), (zz12 (upcB (sbB BB (19 : Nat) m))), (zz11 (upcN (sbB BB (19 : Nat) m))), zz6, zz6, zz5])], []⟩
 else Q (.tup [zz40, (.agg [zz58, (zz0 (upSb (sbB BB (19 : Nat) m))), (zz1 (upDt (sbB BB (19 : Nat) m)))])]) ⟨[(zzy30 c0 c1 c2 c3 c4 c5 c6 c7 c8 c9 c10 c11 c12 c13 c14 c15 c16 c17 c18 w), zz36, (zz102 (upSb (sbB BB (19 : Nat) m)) (upDt (sbB BB (19 : Nat) m))), (zz102 (upSb (sbB BB (19 : Nat) m)) (upDt (sbB BB (19 : Nat) m))), zz44, (.row [c16, c17]), (.cells [(zzy29 BB m), zz6, zz6, zz7, zz5, (.vec 2 [] .none), zz6, zz29, zz7, zz6, zz8, (.vec 2 [] .none), zz6, zz6, zz5])], []⟩))
 else (bif eqRes BinOp.eql (k6 (hdK (sbB BB (0 : Nat) (m + (19 : Nat)))) (3 : Int))
 then (((@Eq (Bool) true true) ∧
 (RwOk ([(c0), (c1), (c2), (c3), (c4), (c5), (c6), (c7), (c8), (c9), (c10), (c11), (c12), (c13), (c14), (c15), (c16), (c17), (c18)] ++ w) 19 (m) ∧
 ((@Eq (Nat) 19 19) ∧
 (@Eq (Bool) (Nat.ble (2 : Nat) m) true)))) ∧
 (bif ntO (sbB BB (19 : Nat) m)
 then Q (.tup [(.agg [(zzy29 BB m), zz6, zz6, zz7, zz5, zz5, zz6, zz5, zz7, zz6, zz8, zz5, (zz0 (ntC (sbB BB (19 : Nat) m))), (zz0 (ntS (sbB BB (19 : Nat) m))), (zz1 (ntD (sbB BB (19 : Nat) m)))]), zz46]) ⟨[(zzy30 c0 c1 c2 c3 c4 c5 c6 c7 c8 c9 c10 c11 c12 c13 c14 c15 c16 c17 c18 w), (zzy32 BB m), zz33, zz43, zz44, (.row [c16, c17]), (zzy32 BB m), (zz2 (ntC (sbB BB (19 : Nat) m)) (ntS (sbB BB (19 : Nat) m)) (ntD (sbB BB (19 : Nat) m)))], []⟩
 else Q zz51 ⟨[(zzy30 c0 c1 c2 c3 c4 c5 c6 c7 c8 c9 c10 c11 c12 c13 c14 c15 c16 c17 c18 w), zz36, zz44, zz44, zz44, (.row [c16, c17]), (.cells [(zzy29 BB m), zz6, zz6, zz7, zz5, zz5, zz6, zz5, zz7, zz6, zz8, zz5, zz6, zz6, zz29]), zz43], []⟩))
 else Q (zz47 (hdK (sbB BB (0 : Nat) (m + (19 : Nat))))) (zz45 ([(c0), (c1), (c2), (c3), (c4), (c5), (c6), (c7), (c8), (c9), (c10), (c11), (c12), (c13), (c14), (c15), (c16), (c17), (c18)] ++ w) (hdK (sbB BB (0 : Nat) (m + (19 : Nat)))) c16 c17 (hdK (sbB BB (0 : Nat) (m + (19 : Nat))))))))))
 else Q (zz41 (hdS (sbB BB (0 : Nat) (m + (19 : Nat)))) (hdD (sbB BB (0 : Nat) (m + (19 : Nat))))) (zz39 ([(c0), (c1), (c2), (c3), (c4), (c5), (c6), (c7), (c8), (c9), (c10), (c11), (c12), (c13), (c14), (c15), (c16), (c17), (c18)] ++ w) (hdS (sbB BB (0 : Nat) (m + (19 : Nat)))) (hdD (sbB BB (0 : Nat) (m + (19 : Nat)))) (hdS (sbB BB (0 : Nat) (m + (19 : Nat)))) (hdD (sbB BB (0 : Nat) (m + (19 : Nat)))))))) (r19 c0 c1 c2 c3 c4 c5 c6 c7 c8 c9 c10 c11 c12 c13 c14 c15 c16 c17 c18 w) := by kernel_rfl
end Go.Proofs.YtogbdjlelkepcaaGreatDoor
namespace Go.Proofs.YtogbdjlelkepcaaGreatDoor
open Go.RowKit

abbrev zzy33 (c0 : TV) (c1 : TV) (c2 : TV) (c3 : TV) (c4 : TV) (c5 : TV) (c6 : TV) (c7 : TV) (c8 : TV) (c9 : TV) (c10 : TV) (c11 : TV) (c12 : TV) (c13 : TV) (c14 : TV) (c15 : TV) (c16 : TV) (c17 : TV) (c18 : TV) (z0 : Int) (z1 : Int) (w : List TV) : VT := (zz35 ([(c0), (c1), (c2), (c3), (c4), (c5), (c6), (c7), (c8), (c9), (c10), (c11), (c12), (c13), (c14), (c15), (c16), (c17), (c18), (.val (.int .u8 (z0))), (.val (.int .u8 (z1)))] ++ w) (IntKind.wrap IntKind.i64 z0) (IntKind.wrap IntKind.i64 z1) (IntKind.wrap IntKind.i64 z0) (IntKind.wrap IntKind.i64 z1))
abbrev zzy34 (z0 : Int) (z1 : Int) : VO := (zz34 (IntKind.wrap IntKind.i64 z0) (IntKind.wrap IntKind.i64 z1))
theorem ev_ntR2 (c0 c1 c2 c3 c4 c5 c6 c7 c8 c9 c10 c11 c12 c13 c14 c15 c16 c17 c18 : TV) (z0 z1 : Int) (w : List TV) (Q : TV → VT → Prop) : vcallF Tryz.prog noGl (specs [(clF, cloneW)]) (tellS [(999998, .dead, none)]) 300 noLp 0 ntF [.row 1 0 19 2] (zz149 (.row (r19 c0 c1 c2 c3 c4 c5 c6 c7 c8 c9 c10 c11 c12 c13 c14 c15 c16 c17 c18 (.val (.int .u8 z0) :: .val (.int .u8 z1) :: w)))) Q =
 (IsB [] ∧
 (((@Eq (Option TV) (.some (zz52 z1)) (.some (zz52 z1))) ∧
 ((@Eq (Option TV) (.some (zz52 z0)) (.some (zz52 z0))) ∧
 True )) ∧
 (bif decide (IntKind.wrap IntKind.i64 z0 ≥ (1 : Int))
 then (bif decide (IntKind.wrap IntKind.i64 z0 ≤ (255 : Int))
 then (bif decide (IntKind.wrap IntKind.i64 z1 ≥ (0 : Int))
 then (bif decide (IntKind.wrap IntKind.i64 z1 ≤ (255 : Int))
 then Q (.tup [(.agg [(zz0 (IntKind.wrap IntKind.i64 z0)), (zz0 (IntKind.wrap IntKind.i64 z1)), zz29]), zz27]) ⟨[(zz32 ([(c0), (c1), (c2), (c3), (c4), (c5), (c6), (c7), (c8), (c9), (c10), (c11), (c12), (c13), (c14), (c15), (c16), (c17), (c18), (.val (.int .u8 (z0))), (.val (.int .u8 (z1)))] ++ w)), (zzy34 z0 z1), (zzy34 z0 z1), (zzy34 z0 z1)], []⟩
 else Q zz68 (zzy33 c0 c1 c2 c3 c4 c5 c6 c7 c8 c9 c10 c11 c12 c13 c14 c15 c16 c17 c18 z0 z1 w))
 else Q zz68 (zzy33 c0 c1 c2 c3 c4 c5 c6 c7 c8 c9 c10 c11 c12 c13 c14 c15 c16 c17 c18 z0 z1 w))
 else Q zz68 (zzy33 c0 c1 c2 c3 c4 c5 c6 c7 c8 c9 c10 c11 c12 c13 c14 c15 c16 c17 c18 z0 z1 w))
 else Q zz68 (zzy33 c0 c1 c2 c3 c4 c5 c6 c7 c8 c9 c10 c11 c12 c13 c14 c15 c16 c17 c18 z0 z1 w)))) := by kernel_rfl
theorem ev_mpR0 (c0 c1 c2 c3 c4 c5 c6 c7 c8 c9 c10 c11 c12 c13 c14 c15 c16 c17 c18 : TV) (w : List TV) (pas : Int) (Q : TV → VT → Prop) : vcallF Tryz.prog leastG (specs [(hdF, hdR), (opF, opR), (upF, upR), (ntF, ntR)]) (tellS [(999999, .dead, none)]) 300 noLp 0 mpF [.row 1 0 0 19, .val (.int .i64 pas)] (zz149 (.row (r19 c0 c1 c2 c3 c4 c5 c6 c7 c8 c9 c10 c11 c12 c13 c14 c15 c16 c17 c18 w))) Q =
 (((@Eq (Bool) true true) ∧
 (RwOk ([(c0), (c1), (c2), (c3), (c4), (c5), (c6), (c7), (c8), (c9), (c10), (c11), (c12), (c13), (c14), (c15), (c16), (c17), (c18)] ++ w) 0 19 ∧
 ((@Eq (Bool) true true) ∧
 (@Eq (Nat) 0 0)))) ∧
 (bif hdOk (sbB (r19 c0 c1 c2 c3 c4 c5 c6 c7 c8 c9 c10 c11 c12 c13 c14 c15 c16 c17 c18 w) (0 : Nat) (19 : Nat))
 then (bif eqRes BinOp.neq (k6 (hdN (sbB (r19 c0 c1 c2 c3 c4 c5 c6 c7 c8 c9 c10 c11 c12 c13 c14 c15 c16 c17 c18 w) (0 : Nat) (19 : Nat))) (↑(19 : Nat) : Int))
 then Q zz51 (zz50 ([(c0), (c1), (c2), (c3), (c4), (c5), (c6), (c7), (c8), (c9), (c10), (c11), (c12), (c13), (c14), (c15), (c16), (c17), (c18)] ++ w) c16 c17)
 else (bif eqRes BinOp.eql (k6 (hdK (sbB (r19 c0 c1 c2 c3 c4 c5 c6 c7 c8 c9 c10 c11 c12 c13 c14 c15 c16 c17 c18 w) (0 : Nat) (19 : Nat))) (1 : Int))
 then False
 else (bif eqRes BinOp.eql (k6 (hdK (sbB (r19 c0 c1 c2 c3 c4 c5 c6 c7 c8 c9 c10 c11 c12 c13 c14 c15 c16 c17 c18 w) (0 : Nat) (19 : Nat))) (2 : Int))
 then False
 else (bif eqRes BinOp.eql (k6 (hdK (sbB (r19 c0 c1 c2 c3 c4 c5 c6 c7 c8 c9 c10 c11 c12 c13 c14 c15 c16 c17 c18 w) (0 : Nat) (19 : Nat))) (3 : Int))
 then False
 else Q (zz47 (hdK (sbB (r19 c0 c1 c2 c3 c4 c5 c6 c7 c8 c9 c10 c11 c12 c13 c14 c15 c16 c17 c18 w) (0 : Nat) (19 : Nat)))) (zz45 ([(c0), (c1), (c2), (c3), (c4), (c5), (c6), (c7), (c8), (c9), (c10), (c11), (c12), (c13), (c14), (c15), (c16), (c17), (c18)] ++ w) (hdK (sbB (r19 c0 c1 c2 c3 c4 c5 c6 c7 c8 c9 c10 c11 c12 c13 c14 c15 c16 c17 c18 w) (0 : Nat) (19 : Nat))) c16 c17 (hdK (sbB (r19 c0 c1 c2 c3 c4 c5 c6 c7 c8 c9 c10 c11 c12 c13 c14 c15 c16 c17 c18 w) (0 : Nat) (19 : Nat))))))))
 else Q (zz41 (hdS (sbB (r19 c0 c1 c2 c3 c4 c5 c6 c7 c8 c9 c10 c11 c12 c13 c14 c15 c16 c17 c18 w) (0 : Nat) (19 : Nat))) (hdD (sbB (r19 c0 c1 c2 c3 c4 c5 c6 c7 c8 c9 c10 c11 c12 c13 c14 c15 c16 c17 c18 w) (0 : Nat) (19 : Nat)))) (zz39 ([(c0), (c1), (c2), (c3), (c4), (c5), (c6), (c7), (c8), (c9), (c10), (c11), (c12), (c13), (c14), (c15), (c16), (c17), (c18)] ++ w) (hdS (sbB (r19 c0 c1 c2 c3 c4 c5 c6 c7 c8 c9 c10 c11 c12 c13 c14 c15 c16 c17 c18 w) (0 : Nat) (19 : Nat))) (hdD (sbB (r19 c0 c1 c2 c3 c4 c5 c6 c7 c8 c9 c10 c11 c12 c13 c14 c15 c16 c17 c18 w) (0 : Nat) (19 : Nat))) (hdS (sbB (r19 c0 c1 c2 c3 c4 c5 c6 c7 c8 c9 c10 c11 c12 c13 c14 c15 c16 c17 c18 w) (0 : Nat) (19 : Nat))) (hdD (sbB (r19 c0 c1 c2 c3 c4 c5 c6 c7 c8 c9 c10 c11 c12 c13 c14 c15 c16 c17 c18 w) (0 : Nat) (19 : Nat)))))) := by kernel_rfl
end Go.Proofs.YtogbdjlelkepcaaGreatDoor
namespace Go.Proofs.YtogbdjlelkepcaaGreatDoor
open Go.RowKit

theorem VCx.leRow {P : Program} {G : Globs} {f : FuncId} {xs : List TV} {cs : List TV} {y : TV} (hc : ∀ f g, (VO.row cs).ren f g = .row cs) (hy : ∀ f g, y.ren f g = y) (h : VCx P G 0 f xs ⟨[.row cs], []⟩ fun x T' => TVle x y ∧ T'.objs[0]? = some (.row cs)) :
  VCx P G 0 f xs ⟨[.row cs], []⟩ fun x T' => x = y ∧ T' = ⟨[.row cs], []⟩ := VCx.fzRow hc hy (h.mono fun _ T' ⟨h1, h2⟩ => ⟨T', .le h1, Nat.le_refl _, h2⟩)
section
variable {cs : List TV} {off n : Nat}
theorem cl_row (h : RwOk cs off n) : VCx Tryz.prog noGl 0 clF [.row 1 0 off n] ⟨[.row cs], []⟩ fun x T' => x = .vec 1 (sbB cs off n) .none ∧ T' = ⟨[.row cs], []⟩ := by
 have hb := h.is
 refine VCx.fzRow h.ren (fun f g => by simp only [TV.ren, hb.ren, Tok.ren]) ?_
 cases n with
 | zero =>
  refine vcallF_is mixedB_Tryz bodiesB_Tryz specsOk_none lsOk_none (ev_clR0 cs off _) ⟨?_, ⟨_, .le (.vec 1 _ _), Nat.le_refl _, rfl⟩⟩
  obtain ⟨inf, i1, i2, i3, i4⟩ := u8Inf_ex
  have hr : rowsR ⟨[.row cs], []⟩ 1 (.row 1 0 off 0) = some [] := by
   have h1 := h.1
   simp only [rowsR, List.getElem?_cons_zero, Nat.beq_refl, Bool.true_and, Nat.mul_one, Nat.ble_eq_true_of_le h1, cond_true]
   rfl
  have ht := oturn_appE (P := Tryz.prog) (G := noGl) (ro := 0) (T := ⟨[.row cs], []⟩) (t := 22) (tx := 22) (s := .tmp 5) (x := .tmp 6) (l := [(5, .vec 1 [] .full), (6, .row 1 0 off 0)]) (inf := inf) (id := 0) (off := off) (n := 0) Tryz.underlying22 i1 i4 (by rw [i2]; rfl) (by rfl) (by kernel_rfl) (by rw [i2]; rfl) (by rw [i2]; rfl) (by rw [i2]; exact hr)
  rw [i2] at ht
  exact ht
 | succ n =>
  obtain ⟨q0, qs, hq⟩ : ∃ q0 qs, sbB cs off (n + 1) = q0 :: qs := ⟨_, _, rfl⟩
  have hl : (q0 :: qs).length = n + 1 := by rw [← hq]; exact sb_len _ _ _
  have hr : rowsR ⟨[.row cs], []⟩ 1 (.row 1 0 off (n + 1)) = some (q0 :: qs) := by
   have h1 := h.1
   simp only [rowsR, List.getElem?_cons_zero, Nat.beq_refl, Bool.true_and, Nat.mul_one, Nat.ble_eq_true_of_le h1, cond_true]
   rw [← hq]; rfl
  obtain ⟨inf, i1, i2, i3, i4⟩ := u8Inf_ex
  refine vcallF_is mixedB_Tryz bodiesB_Tryz specsOk_none lsOk_none (ev_clR cs (q0 :: qs).flatten off (n + 1) _) ⟨?_, ?_⟩
  ·have ht := oturn_appX (P := Tryz.prog) (G := noGl) (ro := 0) (T := ⟨[.row cs], []⟩) (t := 22) (tx := 22) (s := .tmp 5) (x := .tmp 6) (l := [(5, .vec 1 [] .full), (6, .row 1 0 off (n + 1))]) (inf := inf) (q0 := q0) (qs := qs) (id := 0) (off := off) (n := n + 1) Tryz.underlying22 i1 i4 (by rw [i2]; rfl) (by rfl) (by kernel_rfl) (by rw [i2]; rfl) (by rw [i2]; rfl) (by rw [i2]; exact hr) (by
     have := h.1
     have := h.2.1
     rw [i3, hl]; omega)
   rw [i2, hl] at ht
   exact ht
  ·rw [hq]
   refine ⟨_, .row (es := q0 :: qs) ?_, kill_le _ 1, rfl⟩
   rw [← hl]
   exact rowsR_flat rfl (by rw [← hq]; exact hb.len1)
theorem clR_ok : ∀ ro ys T K, clR ro ys T K → VCx Tryz.prog noGl ro clF ys T K := by
 intro ro ys T K hw
 unfold clR at hw
 split at hw
 ·split at hw
  ·rename_i k off n cs ho
   obtain ⟨⟨hro, h⟩, hk⟩ := hw
   exact VCx.atRow gvals_noGl (Nat.le_of_ble_eq_true hro) ho h.ren (fun f g => by simp only [TV.ren, h.is.ren, Tok.ren]) (by simp [renL, TV.ren, nameIn]) (cl_row h) hk
  ·exact hw.elim
 ·exact hw.elim
theorem wrd_row (h : RwOk cs off n) : VCx Tryz.prog noGl 0 wRdF [.row 1 0 off n] ⟨[.row cs], []⟩ fun x T' => x = .ptr 1 0 ∧ T' = ⟨[.row cs, srcO (sbB cs off n) 0 0], []⟩ :=
 vcallF_is mixedB_Tryz bodiesB_Tryz (specs_ok fun p hp => by obtain rfl := List.mem_singleton.1 hp; exact clR_ok) lsOk_none (ev_wrdR cs off n _) ⟨⟨rfl, h⟩, rfl, rfl⟩
theorem rdR_ok : ∀ ro ys T K, rdR ro ys T K → VCx Tryz.prog noGl ro wRdF ys T K := by
 intro ro ys T K hw
 unfold rdR at hw
 split at hw
 ·split at hw
  ·rename_i k off n _ cs ho
   obtain ⟨⟨hro, h⟩, hk⟩ := hw
   refine VCx.at1 (Q := fun x o' l' => x = .ptr 1 0 ∧ o' = .row cs ∧ l' = [srcO (sbB cs off n) 0 0]) gvals_noGl (Nat.le_of_ble_eq_true hro) ho rfl (h.ren _ _) (ys1 := [.row 1 0 off n]) (by simp [renL, TV.ren, nameIn]) ((wrd_row h).mono fun x T' ⟨h1, h2⟩ => ⟨_, _, h2, h1, rfl, rfl⟩) ?_
   rintro x o' l' ⟨rfl, rfl, rfl⟩
   rw [h.ren, set_same ho]
   simpa [TV.ren, nameOut, srcO_ren h.is] using hk
  ·exact hw.elim
 ·exact hw.elim
end
section
variable {b : Bs} {cs : List TV}
theorem up_badR {s : Int} {d : Bs} {dz : TV} {T' : VT} (h0 : T'.objs[0]? = some (.row cs)) (h : upP b = .inl (s, d)) (hd : TVle dz (.vec 1 d .none)) : TVle (TV.tup [.agg [.val (.slice none 0 0), .val (.int .i64 0), .val (.slice none 0 0), .val (.int .u32 0), .val (.int .i64 0), .val (.bool false), .val (.slice none 0 0)], .agg [.val (.int .i64 3), .val (.int .i64 s), dz]]) (upX b) ∧ T'.objs[0]? = some (.row cs) := by
 unfold upX upV
 rw [h]
 exact ⟨.tup ⟨.agg ⟨.nil 2, .refl _, .nil 1, .refl _, .refl _, .refl _, .nil 2, trivial⟩, .agg ⟨.refl _, .refl _, hd, trivial⟩, trivial⟩, h0⟩
theorem up_halfR {T' : VT} {pz : TV} (h0 : T'.objs[0]? = some (.row cs)) (h : upP b = .inr { up0 with w := pfL (upG b), n := pfL (upN b) }) (hp : TVle pz (.vec 1 [] .none)) : TVle (TV.tup [.agg [.vec 2 (pfL (upG b)) .none, .val (.int .i64 0), pz, .val (.int .u32 0), .val (.int .i64 0), .val (.bool false), .vec 2 (pfL (upN b)) .none], .agg [.val (.int .i64 0), .val (.int .i64 0), .val (.slice none 0 0)]]) (upX b) ∧ T'.objs[0]? = some (.row cs) := by
 unfold upX upV
 rw [h]
 exact ⟨.tup ⟨.agg ⟨.refl _, .refl _, hp, .refl _, .refl _, .refl _, .refl _, trivial⟩, .agg ⟨.refl _, .refl _, .nil 1, trivial⟩, trivial⟩, h0⟩
theorem up_fullR {T' : VT} (h0 : T'.objs[0]? = some (.row cs)) (h : upP b = .inr ⟨pfL (upG b), paOr (upA b), paPt (upA b), paHp (upA b), paMd (upA b), paHm (upA b), pfL (upN b)⟩) : TVle (TV.tup [.agg [.vec 2 (pfL (upG b)) .none, .val (.int .i64 (paOr (upA b))), .vec 1 (paPt (upA b)) .none, .val (.int .u32 (paHp (upA b))), .val (.int .i64 (paMd (upA b))), .val (.bool (paHm (upA b))), .vec 2 (pfL (upN b)) .none], .agg [.val (.int .i64 0), .val (.int .i64 0), .val (.slice none 0 0)]]) (upX b) ∧ T'.objs[0]? = some (.row cs) := by
 unfold upX upV
 rw [h]
 exact ⟨.tup ⟨.refl _, .agg ⟨.refl _, .refl _, .nil 1, trivial⟩, trivial⟩, h0⟩
end
theorem up_row {cs : List TV} {off n : Nat} (hr : RwOk cs off n) : VCx Tryz.prog noGl 0 upF [.row 1 0 off n] ⟨[.row cs], []⟩ fun x T' => x = upX (sbB cs off n) ∧ T' = ⟨[.row cs], []⟩ := by
  have hb := hr.is
  have hS : SpecsOk Tryz.prog noGl (specs [(wRdF, rdR), (wU16F, snU .i64 2), (wByF, sbU), (wReF, srestU), (wErF, seW), (pPaF, pfWb), (apF, apW)]) := specs_ok fun p hp => by
    rcases List.mem_cons.1 hp with rfl | hp; exact rdR_ok
    rcases List.mem_cons.1 hp with rfl | hp; exact fun ro ys T K h => wU16_ok _ _ _ _ (snU_le h)
    rcases List.mem_cons.1 hp with rfl | hp; exact fun ro ys T K h => wBy_ok _ _ _ _ (sbU_le h)
    rcases List.mem_cons.1 hp with rfl | hp; exact fun ro ys T K h => wRe_ok _ _ _ _ (srestU_le h)
    rcases List.mem_cons.1 hp with rfl | hp; exact wEr_ok
    rcases List.mem_cons.1 hp with rfl | hp; exact pfWb_ok fun _ h => pf_vcx h
    obtain rfl := List.mem_singleton.1 hp; exact apW_ok ap_vcx
  refine VCx.leRow hr.ren (upX_ren hb) (vcallF_is mixedB_Tryz bodiesB_Tryz hS lsOk_none (ev_upR cs off n _) ?_)
  refine ⟨⟨rfl, hr⟩, ⟨rfl, hb⟩, ?_⟩
  generalize sbB cs off n = b at hb
  intro z bz az ez hq1
  have hbz : IsB bz := by rw [hq1.2.1]; exact tkR_is hb
  refine ⟨⟨rfl, hbz⟩, ?_⟩
  intro v b2 a2 e2 hq2
  have hb2 : IsB b2 := by rw [hq2.2.1]; exact tkR_is hbz
  refine ⟨⟨rfl, hb2⟩, ?_⟩
  intro z3 b3 a3 e3 hq3
  have hb3 : IsB b3 := by rw [hq3.2.1]; exact tkR_is hb2
  refine ⟨⟨rfl, hb3⟩, ?_⟩
  intro v4 b4 a4 e4 hq4
  have hb4 : IsB b4 := by rw [hq4.2.1]; exact tkR_is hb3
  refine ⟨⟨rfl, hb4⟩, ?_⟩
  intro v5 b5 a5 e5 hq5
  have hb5 : IsB b5 := by rw [hq5.2.1]; exact tkR_is hb4
  refine ⟨⟨rfl, hb5⟩, ?_⟩
  obtain ⟨rfl, rfl, rfl, rfl⟩ := up_eqs (z2 := 0) (e6 := 0) hq1 hq2 hq3 hq4 ⟨hq5.1, hq5.2.2⟩
  have hG := upG_is hb
  have hA := upA_is hb
  have hN := upN_is hb
  refine cond_of (fun c1 => ?_) (fun c1 => ?_)
  · exact up_badR rfl (by unfold upP; rw [if_pos (neIt c1)]) (.nil 1)
  replace c1 : upE b = 0 := neIf c1
  refine ⟨hG, cond_of (fun c2 => ?_) (fun c2 => ?_)⟩
  rotate_left
  · exact up_badR rfl (by unfold upP; rw [if_neg (fun c => c c1), c2]; rfl) (.nil 1)
  refine ⟨hN, cond_of (fun c3 => ?_) (fun c3 => ?_)⟩
  rotate_left
  · exact up_badR rfl (by unfold upP; rw [if_neg (fun c => c c1), c2, c3]; rfl) (.nil 1)
  have hu : upP b = (if (upA b).length = 0 ∧ (pfL (upN b)).length = 0 then .inr { up0 with w := pfL (upG b), n := pfL (upN b) }
    else bif paOk (upA b) then (if 0 < (pfL (upN b)).length then .inr ⟨pfL (upG b), paOr (upA b), paPt (upA b), paHp (upA b), paMd (upA b), paHm (upA b), pfL (upN b)⟩ else .inr { up0 with w := pfL (upG b), n := pfL (upN b) })
    else if 0 < (pfL (upN b)).length then .inl (paSb (upA b), paDt (upA b)) else if paSb (upA b) = 3 then .inr { up0 with w := pfL (upG b), n := pfL (upN b) } else .inl (paSb (upA b), paDt (upA b))) := by
    unfold upP; rw [if_neg (fun c => c c1), c2, c3]; rfl
  refine cond_of (fun c4 => ?_) (fun c4 => ?_)
  · replace c4 := eqIt c4
    refine cond_of (fun c5 => ?_) (fun c5 => ?_)
    · exact up_halfR rfl (by rw [hu, if_pos ⟨Int.ofNat_inj.1 c4, Int.ofNat_inj.1 (eqIt c5)⟩]) (.nil 1)
    have hne : ¬ ((upA b).length = 0 ∧ (pfL (upN b)).length = 0) := fun h => eqIf c5 (Int.ofNat_inj.2 h.2)
    refine ⟨hA, cond_of (fun c6 => ?_) (fun c6 => ?_)⟩
    · refine cond_of (fun c7 => ?_) (fun c7 => ?_)
      · exact condT c7 (up_fullR rfl (by rw [hu, if_neg hne, c6]; simp only [cond_true]; rw [if_pos (gtN c7)]))
      · exact condF c7 (up_halfR rfl (by rw [hu, if_neg hne, c6]; simp only [cond_true]; rw [if_neg (ngtN c7)]) (.nil 1))
    · refine cond_of (fun c7 => ?_) (fun c7 => ?_)
      · exact up_badR rfl (by rw [hu, if_neg hne, c6]; simp only [cond_false]; rw [if_pos (gtN c7)]) (.refl _)
      refine cond_of (fun c8 => ?_) (fun c8 => ?_)
      · exact up_badR rfl (by rw [hu, if_neg hne, c6]; simp only [cond_false]; rw [if_neg (ngtN c7), if_neg (neIt c8)]) (.refl _)
      · exact condF c7 (up_halfR rfl (by rw [hu, if_neg hne, c6]; simp only [cond_false]; rw [if_neg (ngtN c7), if_pos (neIf c8)]) (.nil 1))
  · have hne : ¬ ((upA b).length = 0 ∧ (pfL (upN b)).length = 0) := fun h => eqIf c4 (Int.ofNat_inj.2 h.1)
    refine ⟨hA, cond_of (fun c6 => ?_) (fun c6 => ?_)⟩
    · refine cond_of (fun c7 => ?_) (fun c7 => ?_)
      · exact condT c7 (up_fullR rfl (by rw [hu, if_neg hne, c6]; simp only [cond_true]; rw [if_pos (gtN c7)]))
      · exact condF c7 (up_halfR rfl (by rw [hu, if_neg hne, c6]; simp only [cond_true]; rw [if_neg (ngtN c7)]) (.nil 1))
    · refine cond_of (fun c7 => ?_) (fun c7 => ?_)
      · exact up_badR rfl (by rw [hu, if_neg hne, c6]; simp only [cond_false]; rw [if_pos (gtN c7)]) (.refl _)
      refine cond_of (fun c8 => ?_) (fun c8 => ?_)
      · exact up_badR rfl (by rw [hu, if_neg hne, c6]; simp only [cond_false]; rw [if_neg (ngtN c7), if_neg (neIt c8)]) (.refl _)
      · exact condF c7 (up_halfR rfl (by rw [hu, if_neg hne, c6]; simp only [cond_false]; rw [if_neg (ngtN c7), if_pos (neIf c8)]) (.nil 1))
set_option maxHeartbeats 1000000 in
theorem op_row {cs : List TV} {off n : Nat} (hr : RwOk cs off n) (pas : Int) : VCx Tryz.prog noGl 0 opF [.row 1 0 off n, .val (.int .i64 pas)] ⟨[.row cs], []⟩ fun x T' => x = opX (sbB cs off n) pas ∧ T' = ⟨[.row cs], []⟩ := by
  have hb := hr.is
  have hS : SpecsOk Tryz.prog noGl (specs [(wRdF, rdR), (wU8F, snU .i64 1), (wU16F, snU .i64 2), (wU32F, snU .u32 4), (wLeF, slW), (parF, paW)]) := specs_ok fun p hp => by
    rcases List.mem_cons.1 hp with rfl | hp; exact rdR_ok
    rcases List.mem_cons.1 hp with rfl | hp; exact fun ro ys T K h => wU8_ok _ _ _ _ (snU_le h)
    rcases List.mem_cons.1 hp with rfl | hp; exact fun ro ys T K h => wU16_ok _ _ _ _ (snU_le h)
    rcases List.mem_cons.1 hp with rfl | hp; exact fun ro ys T K h => wU32_ok _ _ _ _ (snU_le h)
    rcases List.mem_cons.1 hp with rfl | hp; exact wLe_ok
    obtain rfl := List.mem_singleton.1 hp; exact paW_ok
  have hX := opX_ren pas hb
  refine VCx.leRow hr.ren hX (vcallF_is mixedB_Tryz bodiesB_Tryz hS lsOk_none (ev_opR cs off n pas _) ?_)
  clear hX
  by_cases h10 : (sbB cs off n).length < 10
  · refine condT (decide_eq_true (by rw [sb_len] at h10; omega)) ⟨?_, rfl⟩
    unfold opX; rw [if_pos h10]; exact op_fail 0
  refine condF (decide_eq_false (by rw [sb_len] at h10; omega)) ⟨⟨rfl, hr⟩, ⟨rfl, hb⟩, ?_⟩
  generalize sbB cs off n = b at *
  intro z bz az ez hq
  have hbz : IsB bz := by rw [hq.2.1]; exact tkR_is hb
  refine cond_of (fun h => ?_) (fun h => ?_)
  · refine ⟨?_, rfl⟩
    have h4 := neIt h; rw [hq.1] at h4
    unfold opX; rw [if_neg h10, if_pos h4]; exact op_fail1 _
  have h4 := neIf h; rw [hq.1] at h4
  have hX : opX b pas = opMid bz ez pas := by unfold opX; rw [if_neg h10, if_neg (fun c => c h4), hq.2.1, hq.2.2]; rfl
  refine ⟨⟨rfl, hbz⟩, ?_⟩
  intro n b2 a2 e2 hq2
  have hb2 : IsB b2 := by rw [hq2.2.1]; exact tkR_is hbz
  refine ⟨⟨rfl, hb2⟩, ?_⟩
  intro hh b3 a3 e3 hq3
  have hb3 : IsB b3 := by rw [hq3.2.1]; exact tkR_is hb2
  refine ⟨⟨rfl, hb3⟩, ?_⟩
  intro i b4 a4 e4 hq4
  have hb4 : IsB b4 := by rw [hq4.2.1]; exact tkR_is hb3
  refine ⟨⟨rfl, hb4⟩, ?_⟩
  intro k b5 a5 e5 hq5
  have hb5 : IsB b5 := by rw [hq5.2.1]; exact tkR_is hb4
  have hM : opX b pas = opEnd n hh i k b5 e5 pas := by
    rw [hX]
    obtain ⟨rfl, rfl, rfl⟩ := hq2
    obtain ⟨rfl, rfl, rfl⟩ := hq3
    obtain ⟨rfl, rfl, rfl⟩ := hq4
    obtain ⟨rfl, rfl, rfl⟩ := hq5
    rfl
  clear hX hq hq2 hq3 hq4 hq5
  rw [hM]
  refine cond_of (fun c1 => ?_) (fun c1 => ?_)
  · rw [opE_n (eqIt c1)]; exact ⟨op_fail 2, rfl⟩
  have d1 := eqIf c1
  refine cond_of (fun c2 => ?_) (fun c2 => ?_)
  · have d2 := of_decide_eq_true c2
    refine cond_of (fun c3 => ?_) (fun c3 => ?_)
    · rw [opE_p d1 d2 (neIt c3)]; exact ⟨op_fail 2, rfl⟩
    · have d3 : ¬ (pas ≥ 1 ∧ ¬ n = pas) := fun c => c.2 (neIf c3)
      refine cond_of (fun c4 => ?_) (fun c4 => ?_)
      · have d4 : hh = 0 ∨ (hh ≥ 3 ∧ hh ≤ 65535) := .inl (eqIt c4)
        refine cond_of (fun c5 => ?_) (fun c5 => ?_)
        · rw [opE_i d1 d3 d4 (eqIt c5)]; exact ⟨op_fail 3, rfl⟩
        refine ⟨⟨rfl, hb5⟩, ?_⟩
        refine cond_of (fun c6 => ?_) (fun c6 => ?_)
        · rw [opE_k d1 d3 d4 (eqIf c5) (neIt c6)]; exact ⟨op_fail 0, rfl⟩
        refine ⟨⟨rfl, hb5⟩, fun by6 ay6 ey6 => ?_⟩
        rw [opE_e d1 d3 d4 (eqIf c5) (neIf c6)]
        cases paO b5 e5
        · exact ⟨op_fail _, rfl⟩
        · refine ⟨?_, rfl⟩
          exact op_good _ _ _ _ _
      · have d0 := eqIf c4
        refine cond_of (fun c4a => ?_) (fun c4a => ?_)
        · have d4a := of_decide_eq_true c4a
          refine cond_of (fun c4b => ?_) (fun c4b => ?_)
          · have d4 : ¬ (hh = 0 ∨ (hh ≥ 3 ∧ hh ≤ 65535)) := by
              have := of_decide_eq_false (show decide (hh ≤ 65535) = false by cases h : decide (hh ≤ 65535) <;> simp_all)
              omega
            rw [opE_h d1 d3 d4]; exact ⟨op_fail 6, rfl⟩
          · have d4 : hh = 0 ∨ (hh ≥ 3 ∧ hh ≤ 65535) := .inr ⟨d4a, of_decide_eq_true (by simpa using c4b)⟩
            refine cond_of (fun c5 => ?_) (fun c5 => ?_)
            · rw [opE_i d1 d3 d4 (eqIt c5)]; exact ⟨op_fail 3, rfl⟩
            refine ⟨⟨rfl, hb5⟩, ?_⟩
            refine cond_of (fun c6 => ?_) (fun c6 => ?_)
            · rw [opE_k d1 d3 d4 (eqIf c5) (neIt c6)]; exact ⟨op_fail 0, rfl⟩
            refine ⟨⟨rfl, hb5⟩, fun by6 ay6 ey6 => ?_⟩
            rw [opE_e d1 d3 d4 (eqIf c5) (neIf c6)]
            cases paO b5 e5
            · exact ⟨op_fail _, rfl⟩
            · refine ⟨?_, rfl⟩
              exact op_good _ _ _ _ _
        · have d4a := of_decide_eq_false c4a
          have d4 : ¬ (hh = 0 ∨ (hh ≥ 3 ∧ hh ≤ 65535)) := by omega
          rw [opE_h d1 d3 d4]; exact ⟨op_fail 6, rfl⟩
  · have d3 : ¬ (pas ≥ 1 ∧ ¬ n = pas) := fun c => of_decide_eq_false c2 c.1
    refine cond_of (fun c4 => ?_) (fun c4 => ?_)
    · have d4 : hh = 0 ∨ (hh ≥ 3 ∧ hh ≤ 65535) := .inl (eqIt c4)
      refine cond_of (fun c5 => ?_) (fun c5 => ?_)
      · rw [opE_i d1 d3 d4 (eqIt c5)]; exact ⟨op_fail 3, rfl⟩
      refine ⟨⟨rfl, hb5⟩, ?_⟩
      refine cond_of (fun c6 => ?_) (fun c6 => ?_)
      · rw [opE_k d1 d3 d4 (eqIf c5) (neIt c6)]; exact ⟨op_fail 0, rfl⟩
      refine ⟨⟨rfl, hb5⟩, fun by6 ay6 ey6 => ?_⟩
      rw [opE_e d1 d3 d4 (eqIf c5) (neIf c6)]
      cases paO b5 e5
      · exact ⟨op_fail _, rfl⟩
      · refine ⟨?_, rfl⟩
        exact op_good _ _ _ _ _
    · have d0 := eqIf c4
      refine cond_of (fun c4a => ?_) (fun c4a => ?_)
      · have d4a := of_decide_eq_true c4a
        refine cond_of (fun c4b => ?_) (fun c4b => ?_)
        · have d4 : ¬ (hh = 0 ∨ (hh ≥ 3 ∧ hh ≤ 65535)) := by
            have := of_decide_eq_false (show decide (hh ≤ 65535) = false by cases h : decide (hh ≤ 65535) <;> simp_all)
            omega
          rw [opE_h d1 d3 d4]; exact ⟨op_fail 6, rfl⟩
        · have d4 : hh = 0 ∨ (hh ≥ 3 ∧ hh ≤ 65535) := .inr ⟨d4a, of_decide_eq_true (by simpa using c4b)⟩
          refine cond_of (fun c5 => ?_) (fun c5 => ?_)
          · rw [opE_i d1 d3 d4 (eqIt c5)]; exact ⟨op_fail 3, rfl⟩
          refine ⟨⟨rfl, hb5⟩, ?_⟩
          refine cond_of (fun c6 => ?_) (fun c6 => ?_)
          · rw [opE_k d1 d3 d4 (eqIf c5) (neIt c6)]; exact ⟨op_fail 0, rfl⟩
          refine ⟨⟨rfl, hb5⟩, fun by6 ay6 ey6 => ?_⟩
          rw [opE_e d1 d3 d4 (eqIf c5) (neIf c6)]
          cases paO b5 e5
          · exact ⟨op_fail _, rfl⟩
          · refine ⟨?_, rfl⟩
            exact op_good _ _ _ _ _
      · have d4a := of_decide_eq_false c4a
        have d4 : ¬ (hh = 0 ∨ (hh ≥ 3 ∧ hh ≤ 65535)) := by omega
        rw [opE_h d1 d3 d4]; exact ⟨op_fail 6, rfl⟩
end Go.Proofs.YtogbdjlelkepcaaGreatDoor
