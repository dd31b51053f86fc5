/- Part 7 of the proof of framePiecesCard_holds: MsFv, MsFw, MfLv ... No condition. -/
import Derived.LaidHandle
import Derived.LaidMore
import Derived.Lay
import Derived.ChangeVars
import Derived.JoinedOf
import Derived.Stop.Joined
import Derived.Test.YtogbdjlelkepcaaGreatDoorTie
import Derived.Test.YtogbdjlelkepcaaGreatDoorCards
import Derived.SevenTiedAt
import Derived.Test.YtogbdjlelkepcaaGreatDoorFp1
import Derived.Test.YtogbdjlelkepcaaGreatDoorFp2
import Derived.Test.YtogbdjlelkepcaaGreatDoorFp3
import Derived.Test.YtogbdjlelkepcaaGreatDoorFp4
import Derived.Test.YtogbdjlelkepcaaGreatDoorFp5
import Derived.Test.YtogbdjlelkepcaaGreatDoorFp6
set_option maxRecDepth 100000
namespace Go.Proofs.YtogbdjlelkepcaaGreatDoor
open Go.RowKit

theorem s11V_ok {G : Globs} (hG : GVals G) : ∀ ro ys T K, s11V ro ys T K → VCx Tryz.prog G ro s11F ys T K := by
 intro ro ys T K hw
 unfold s11V at hw
 split at hw
 ·obtain ⟨⟨rfl, m, hm, rfl⟩, hk⟩ := hw
  have hr : ∀ f g, (TV.agg m.cells).ren f g = .agg m.cells := fun f g => by simp only [TV.ren, hm.ren f g]
  exact VCx.liftPure hG (VCx.anyG (s11_vcx hm)) (by simp only [renL, hr]) (fun _ _ => rfl) hk
 ·exact hw.elim
theorem mqInf_ex : ∃ (inf : TypeInfo) (z : Value), Tryz.prog.info? 75 = some inf ∧ inf.size = 15 ∧ inf.bytes + 1 ≤ 1000 ∧ inf.zero = some z ∧ z.cells.size = 15 :=
 ⟨(Tryz.prog.info? 75).getD default, ((Tryz.prog.info? 75).getD default).zero.getD default, by kernel_rfl, by kernel_rfl, Nat.le_of_ble_eq_true (by kernel_rfl), by kernel_rfl, by kernel_rfl⟩
theorem opure_mq {x i : Operand} {l : List (Nat × TV)} {es : Bs} {tok : Tok} {k : IntKind} {z : Int} {cs : List TV} (hx : evOf noGl l x = .vec 15 es tok) (hz : evOf noGl l i = .val (.int k z)) (h0 : 0 ≤ z) (he : es[z.toNat]? = some cs) : OPure Tryz.prog noGl (.indexAddr 36 x i) l (.elt cs) := by
 obtain ⟨inf, _, i1, i2, _, _, _⟩ := mqInf_ex
 exact opure_index (inf := inf) Tryz.underlying36 i1 (by rw [i2]; exact hx) hz h0 he
theorem opure_me {x i : Operand} {l : List (Nat × TV)} {es : Bs} {tok : Tok} {k : IntKind} {z : Int} {cs : List TV} (hx : evOf noGl l x = .vec 15 es tok) (hz : evOf noGl l i = .val (.int k z)) (h0 : 0 ≤ z) (he : es[z.toNat]? = some cs) : OPure Tryz.prog noGl (.indexAddr 25 x i) l (.elt cs) := by
 obtain ⟨inf, _, i1, i2, _, _, _⟩ := meInf_ex
 exact opure_index (inf := inf) Tryz.underlying25 i1 (by rw [i2]; exact hx) hz h0 he
section
variable {L : List MsgS}
theorem sa_loop (hL : AllM L) (hn : L.length ≤ 2000000) : LsOk Tryz.prog noGl (saLs (L.map MsgS.cells) (codeAt Tryz.prog saF 0)) := specsL_ok fun p hp => by
  obtain rfl := List.mem_singleton.1 hp
  have hS : SpecsOk Tryz.prog noGl (specs [(s11F, s11V)]) := specs_ok fun p hp => by
    obtain rfl := List.mem_singleton.1 hp; exact s11V_ok gvals_noGl
  refine loopL_ok fun K hK => cntLoop (f := saF) (id := 0) (by kernel_rfl) 27 saKs (saVs (L.map MsgS.cells)) ⟨[], []⟩ L.length (fun e vs T => e = .normal ∧ vs = saVs (L.map MsgS.cells) (L.map MsgS.cells).length ∧ T = ⟨[], []⟩) (fun j hj => ?_) K (fun e vs T ⟨h1, h2, h3⟩ => by subst h1 h2 h3; exact hK)
  by_cases hlt : j < L.length
  · have hat : (L.map MsgS.cells)[((j : Nat) : Int).toNat]? = some L[j].cells := by rw [Int.toNat_natCast, List.getElem?_map, List.getElem?_eq_getElem hlt]; rfl
    have hm := hL _ (List.getElem_mem hlt)
    refine vx_is mixedB_Tryz bodiesB_Tryz hS lsOk_none (ev_saA (L.map MsgS.cells) j L[j] _) ?_
    refine condT (decide_eq_true (by rw [List.length_map]; omega)) ⟨opure_mq rfl rfl (by omega) hat, opure_mq rfl rfl (by omega) hat, ⟨rfl, _, hm, rfl⟩, ?_⟩
    exact ⟨rfl, rfl, hlt, .inl ⟨rfl, by rw [wrapC hlt hn]; rfl⟩⟩
  · have hj2 : j = L.length := by omega
    refine vx_is mixedB_Tryz bodiesB_Tryz hS lsOk_none (ev_saA (L.map MsgS.cells) j m0 _) ?_
    exact condF (decide_eq_false (by rw [List.length_map]; omega)) ⟨rfl, rfl, rfl, by rw [hj2]; simp only [saVs, List.length_map], rfl⟩
theorem sa_vcx (hL : AllM L) (hn : L.length ≤ 2000000) : VCx Tryz.prog noGl 0 saF [.vec 15 (L.map MsgS.cells) .none, .vec 15 (L.map MsgS.cells) .none] ⟨[], []⟩ fun x T' => x = .val (.bool true) ∧ T' = ⟨[], []⟩ :=
 VCx.keepQ 0 0 (Nat.le_refl _) (Nat.le_refl _) (vcallF_is mixedB_Tryz bodiesB_Tryz specsOk_none (sa_loop hL hn) (ev_sa _ _) (condF (neSelf _ _) ⟨rfl, ⟨rfl, rfl, rfl, trivial, rfl, rfl, rfl⟩, rfl, rfl⟩))
def p2X (l : Bs) : TV := if l.length = 0 then plN else .vec 2 l (.tail 1 l.length)
def p2Tl (n : Nat) (l : Bs) : Tl7 := if l.length = 0 then [(n, 15, true)] else [(n, 15, true), (l.length, 2, true)]
theorem p2Tl_len (n : Nat) (l : Bs) : (p2Tl n l).length ≤ 2 := by unfold p2Tl; split <;> simp
theorem p2App {A : Bs} {p : List TV} {O : List VO} {n : Nat} {s x : Operand} {l : List (Nat × TV)} (hs : evOf noGl l s = p2X A) (hx : srcOf 2 (evOf noGl l x) = some [p]) (hb : A.length ≤ 2000000) : OTurn Tryz.prog noGl 0 ⟨O, p2Tl n A⟩ (.call ⟨.builtin .append, #[s, x], #[68, 68]⟩) l (.vec 2 (A ++ [p]) (.tail 1 (A.length + 1))) ⟨O, [(n, 15, true), (A.length + 1, 2, true)]⟩ := by
  by_cases hA : A.length = 0
  · obtain rfl := List.length_eq_zero_iff.1 hA
    exact oturn_q8 (T := ⟨O, [(n, 15, true)]⟩) (T1 := ⟨O, [(n, 15, true), (0, 2, true)]⟩) (es := []) (es2 := [p]) (k := 1) (n := 0) (bn := true) (by rw [hs]; rfl) hx (by simp)
  · have e1 : p2X A = .vec 2 A (.tail 1 A.length) := by unfold p2X; rw [if_neg hA]
    have e2 : p2Tl n A = [(n, 15, true), (A.length, 2, true)] := by unfold p2Tl; rw [if_neg hA]
    rw [e2]
    exact oturn_q8 (T := ⟨O, [(n, 15, true), (A.length, 2, true)]⟩) (T1 := ⟨O, [(n, 15, true), (A.length, 2, true)]⟩) (es := A) (es2 := [p]) (k := 1) (n := A.length) (bn := true) (by rw [hs, e1]; simp [vadopt]) hx (by simp only [List.length_cons, List.length_nil]; omega)
def pC (m : MsgS) : List TV := [.val (.int .i64 m.k), .val (.int .i64 m.op.n), .val (.int .i64 m.op.h), .val (.int .u32 m.op.i), if m.op.l.length = 0 then plN else .vec 2 m.op.l .none, .vec 2 m.u.w .none, .val (.int .i64 m.u.o), .vec 1 m.u.x .none, .val (.int .u32 m.u.h), .val (.int .i64 m.u.m), .val (.bool m.u.hm), .vec 2 m.u.n .none, .val (.int .i64 m.c), .val (.int .i64 m.s), .vec 1 m.d .none]
theorem pC_ren {m : MsgS} (hm : MsWf m) (f g : Nat → Option Nat) : renL f g (pC m) = pC m := by
 have h1 : (if m.op.l.length = 0 then plN else TV.vec 2 m.op.l .none).ren f g = if m.op.l.length = 0 then plN else .vec 2 m.op.l .none := by
  split
  ·rfl
  ·simp only [TV.ren, CpWf.ren hm.1, Tok.ren]
 simp only [pC, renL, h1, TV.ren, hm.2.1.1.ren, hm.2.1.2.1.ren, hm.2.1.2.2.ren, hm.2.2.ren, Tok.ren]
theorem pC_le (m : MsgS) : TVleL (pC m) m.cells := by
 refine ⟨.refl _, .refl _, .refl _, .refl _, ?_, .refl _, .refl _, .refl _, .refl _, .refl _, .refl _, .refl _, .refl _, .refl _, .refl _, trivial⟩
 split
 ·rename_i h
  rw [List.length_eq_zero_iff.1 h]; exact .nil 2
 ·exact .refl _
theorem pCs_ren {l : List MsgS} (h : AllM l) (f g : Nat → Option Nat) : renLL f g (l.map pC) = l.map pC := by
 induction l with
 | nil => rfl
 | cons M l ih => rw [List.map_cons, renLL, ih (fun m hm => h m (List.mem_cons_of_mem _ hm)), pC_ren (h M List.mem_cons_self)]
theorem p2_inner {m : MsgS} (hm : MsWf m) {l A : Bs} (hl0 : ∀ f g, renLL f g l = l) (hA : ∀ f g, renLL f g A = A) (n : Nat) (j : Int) {ln : Bool} (hln : ln = decide (m.op.l.length = 0)) : LsOk Tryz.prog noGl (p2Is m l A n j ln (codeAt Tryz.prog p2F 2)) := specsL_ok fun p hp => by
  obtain rfl := List.mem_singleton.1 hp
  have hmr : ∀ f g, renL f g m.cells = m.cells := hm.ren
  obtain ⟨⟨ps, hl, hB, hn⟩, hu, hd⟩ := hm
  have hll : m.op.l.length = ps.length := by rw [hl, List.length_map]
  refine loopL_ok fun K hK => ?_
  have hren : ∀ k f g, renLL f g ((ps.take k).map cpE) = (ps.take k).map cpE := fun k f g => renLL_cp f g fun p hp => hB p (List.mem_of_mem_take hp)
  refine loopK (f := p2F) (id := 2) (by kernel_rfl) 65 p2Js (fun i : Nat => ps.length - i) (fun i : Nat => p2Us l A n j m.op.l i) (fun i => ⟨[.cells m.cells, plA m (p2X ((ps.take i).map cpE))], p2Tl n ((ps.take i).map cpE)⟩) (fun i => i ≤ ps.length) 2 2 (fun i _ => ⟨Nat.le_refl _, p2Tl_len _ _⟩)
    (fun e vs T => e = .normal ∧ vs = p2Us l A n j m.op.l m.op.l.length ∧ T = ⟨[.cells m.cells, plA m (p2X m.op.l)], p2Tl n m.op.l⟩) (fun i hi => ?_) 0 (Nat.zero_le _) K ?_
  · by_cases hlt : i < ps.length
    · have hat : m.op.l[((i : Nat) : Int).toNat]? = some (cpE ps[i]) := by rw [hl, Int.toNat_natCast, List.getElem?_map, List.getElem?_eq_getElem hlt]; rfl
      have ht : ps.take (i + 1) = ps.take i ++ [ps[i]] := by rw [List.take_add_one, List.getElem?_eq_getElem hlt]; rfl
      have hjl : ((ps.take i).map cpE).length = i := by rw [List.length_map, List.length_take]; omega
      have hm1 : (ps.take (i + 1)).map cpE = (ps.take i).map cpE ++ [cpE ps[i]] := by rw [ht, List.map_append]; rfl
      refine vx_is mixedB_Tryz bodiesB_Tryz specsOk_none lsOk_none (ev_p2B m l A ((ps.take i).map cpE ++ [cpE ps[i]]) n 1 (((ps.take i).map cpE).length + 1) j i ps[i].1 ps[i].2 (p2X ((ps.take i).map cpE)) (p2Tl n ((ps.take i).map cpE)) [(n, 15, true), (((ps.take i).map cpE).length + 1, 2, true)] _) ?_
      refine condT (decide_eq_true (by rw [hll]; omega)) ⟨opure_oc rfl rfl (by omega) hat, p2App (A := (ps.take i).map cpE) (p := cpE ps[i]) rfl rfl (by rw [hjl]; omega), rfl, rfl, i + 1, hlt, by show ps.length - (i + 1) < ps.length - i; omega, .inr ⟨?_, ?_⟩⟩
      · have e1 : p2X ((ps.take (i + 1)).map cpE) = .vec 2 ((ps.take i).map cpE ++ [cpE ps[i]]) (.tail 1 (((ps.take i).map cpE).length + 1)) := by
          unfold p2X; rw [hm1, if_neg (by simp)]; simp
        have e2 : p2Tl n ((ps.take (i + 1)).map cpE) = [(n, 15, true), (((ps.take i).map cpE).length + 1, 2, true)] := by
          unfold p2Tl; rw [hm1, if_neg (by simp)]; simp
        have e3 : (p2X ((ps.take (i + 1)).map cpE)).ren (Go.Proofs.YtogbdjlelkepcaaGreatDoor.keep 2) (Go.Proofs.YtogbdjlelkepcaaGreatDoor.keep 2) = p2X ((ps.take (i + 1)).map cpE) := by
          rw [e1]
          simp only [TV.ren, ← hm1, hren, Tok.ren]; rfl
        show VT.keep _ 2 2 = ⟨[.cells m.cells, plA m (p2X ((ps.take (i + 1)).map cpE))], p2Tl n ((ps.take (i + 1)).map cpE)⟩
        rw [e2, ← e1]
        show VT.keep ⟨[.cells m.cells, plA m (p2X ((ps.take (i + 1)).map cpE)), _], _⟩ 2 2 = _
        simp only [VT.keep, List.take_succ_cons, List.take_zero, List.map_cons, List.map_nil, VO.ren, hmr, plA, renL, TV.ren, e3, hd.ren, Tok.ren, List.take_nil]
      · simp only [renL, TV.ren, hl0, hA, CpWf.ren ⟨ps, hl, hB, hn⟩, Tok.ren]
        rw [wrapC hlt hn]
        rfl
    · have hj2 : i = ps.length := by omega
      refine vx_is mixedB_Tryz bodiesB_Tryz specsOk_none lsOk_none (ev_p2B m l A [] n 0 0 j i 0 [] (p2X ((ps.take i).map cpE)) (p2Tl n ((ps.take i).map cpE)) [] _) ?_
      exact condF (decide_eq_false (by rw [hll]; omega)) ⟨rfl, rfl, rfl, by rw [hj2]; simp only [p2Us, hll], by
        have e : (ps.take i).map cpE = m.op.l := by rw [hj2, List.take_length, hl]
        rw [e]; rfl⟩
  · rintro e vs T ⟨rfl, rfl, rfl⟩
    subst hln
    unfold p2Rs at hK
    unfold p2X p2Tl
    by_cases h0 : m.op.l.length = 0
    · rw [decide_eq_true h0] at hK
      rw [if_pos h0, if_pos h0]
      exact hK
    · rw [decide_eq_false h0] at hK
      rw [if_neg h0, if_neg h0]
      exact hK
theorem oturn_mq (objs : List VO) (tl : Tl7) (A : Bs) (c : List TV) (h : A.length ≤ 2000000) : OTurn Tryz.prog noGl 0 ⟨objs, (A.length, 15, true) :: tl⟩ (.call ⟨.builtin .append, #[.tmp 59, .tmp 61], #[36, 36]⟩) [(59, .vec 15 A (.tail 0 A.length)), (61, .vec 15 [c] .full)] (.vec 15 (A ++ [c]) (.tail 0 (A.length + 1))) ⟨objs, (A.length + 1, 15, true) :: tl⟩ := by
  obtain ⟨inf, z, i1, i2, i3, i4, i5⟩ := mqInf_ex
  have h1 := oturn_app (inf := inf) (P := Tryz.prog) (G := noGl) (ro := 0) (T := ⟨objs, (A.length, 15, true) :: tl⟩) (T1 := ⟨objs, (A.length, 15, true) :: tl⟩) (t := 36) (tx := 36) (s := .tmp 59) (x := .tmp 61) (l := [(59, .vec 15 A (.tail 0 A.length)), (61, .vec 15 [c] .full)]) (es := A) (es2 := [c]) (k := 0) (n := A.length) (bn := true) Tryz.underlying36 i1 i4 (by rw [i2]; exact i5) (by rw [i2]; decide) (by kernel_rfl)
    (by rw [i2]; simp [evOf, evFind, vadopt]) (by rw [i2]; rfl)
    (by have h1 := i3
        have h2 := Nat.mul_le_mul (show A.length + [c].length ≤ 2000001 by simp only [List.length_cons, List.length_nil]; omega) h1
        omega)
  rw [i2] at h1
  exact h1
def p2Q (L : List MsgS) (j : Nat) (e : Exit) (vs : List TV) (on : Nat) (tl : Tl7) (D : List Nat) (m : Nat) : Prop := D = [] ∧ m = 65 ∧ match e with
 | .normal => j < L.length ∧ renL (Go.Proofs.YtogbdjlelkepcaaGreatDoor.keep 0) (Go.Proofs.YtogbdjlelkepcaaGreatDoor.keep 1) vs = p2Vs (L.map MsgS.cells) ((L.take (j + 1)).map pC) (j + 1) (j + 1 : Nat) ∧ tl.take 1 = [(j + 1, 15, true)]
 | .exit i => i = 0 ∧ vs = p2Vs (L.map MsgS.cells) (L.map pC) (L.map MsgS.cells).length (L.map MsgS.cells).length ∧ on = 0 ∧ tl = [((L.map MsgS.cells).length, 15, true)]
 | _ => False
theorem p2Q_ok (L : List MsgS) (j : Nat) (e : Exit) (σ : List TV) (T : VT) (D : List Nat) (h : pickS p2Ks (fun e vs T D m => p2Q L j e vs T.objs.length T.tails D m) e σ T D) : pickS p2Ks (loopQ 65 0 (fun j : Nat => L.length - j) (fun j : Nat => p2Vs (L.map MsgS.cells) ((L.take j).map pC) j j) (fun j => ⟨[], [(j, 15, true)]⟩) (fun j => j ≤ L.length) 0 1 j (fun e vs T => e = .normal ∧ vs = p2Vs (L.map MsgS.cells) (L.map pC) (L.map MsgS.cells).length (L.map MsgS.cells).length ∧ T = ⟨[], [((L.map MsgS.cells).length, 15, true)]⟩)) e σ T D := by
 obtain ⟨h1, h2, h3⟩ := h
 refine ⟨h1, h2, ?_⟩
 cases e
 case normal =>
  obtain ⟨hlt, a1, a2⟩ := h3
  refine ⟨j + 1, hlt, by show L.length - (j + 1) < L.length - j; omega, .inr ⟨?_, a1⟩⟩
  simp only [VT.keep, List.take_zero, List.map_nil, a2]
 case exit i =>
  obtain ⟨rfl, a1, a2, a3⟩ := h3
  refine ⟨rfl, a1, ?_⟩
  obtain ⟨objs, tails⟩ := T
  simp only at a2 a3
  rw [List.length_eq_zero_iff.1 a2, a3]
 all_goals exact h3.elim
theorem p2_loop (hL : AllM L) (hn : L.length ≤ 2000000) : LsOk Tryz.prog noGl (p2Ls (L.map MsgS.cells) (L.map pC) (codeAt Tryz.prog p2F 0)) := specsL_ok fun p hp => by
  obtain rfl := List.mem_singleton.1 hp
  have hLr : ∀ f g, renLL f g (L.map MsgS.cells) = L.map MsgS.cells := renLL_ms hL
  refine loopL_ok fun K hK => ?_
  refine loopK (f := p2F) (id := 0) (by kernel_rfl) 65 p2Ks (fun j : Nat => L.length - j) (fun j : Nat => p2Vs (L.map MsgS.cells) ((L.take j).map pC) j j) (fun j => ⟨[], [(j, 15, true)]⟩) (fun j => j ≤ L.length) 0 1 (fun _ _ => ⟨Nat.le_refl _, Nat.le_refl _⟩)
    (fun e vs T => e = .normal ∧ vs = p2Vs (L.map MsgS.cells) (L.map pC) (L.map MsgS.cells).length (L.map MsgS.cells).length ∧ T = ⟨[], [((L.map MsgS.cells).length, 15, true)]⟩) (fun j hj => ?_) 0 (Nat.zero_le _) K ?_
  · by_cases hlt : j < L.length
    · have hat : (L.map MsgS.cells)[((j : Nat) : Int).toNat]? = some L[j].cells := by rw [Int.toNat_natCast, List.getElem?_map, List.getElem?_eq_getElem hlt]; rfl
      have hm := hL _ (List.getElem_mem hlt)
      have ht : L.take (j + 1) = L.take j ++ [L[j]] := by rw [List.take_add_one, List.getElem?_eq_getElem hlt]; rfl
      have hjl : ((L.take j).map pC).length = j := by rw [List.length_map, List.length_take]; omega
      have hm1 : (L.take (j + 1)).map pC = (L.take j).map pC ++ [pC L[j]] := by rw [ht, List.map_append]; rfl
      have hA := pCs_ren (l := L.take j) (fun m hm => hL m (List.mem_of_mem_take hm))
      have hA2 := pCs_ren (l := L.take (j + 1)) (fun m hm => hL m (List.mem_of_mem_take hm))
      have hnr : ∀ x : TV, (x.ren (Go.Proofs.YtogbdjlelkepcaaGreatDoor.keep 0) (Go.Proofs.YtogbdjlelkepcaaGreatDoor.keep 1) = if L[j].op.l.length = 0 then plN else .vec 2 L[j].op.l .none) → renLL (Go.Proofs.YtogbdjlelkepcaaGreatDoor.keep 0) (Go.Proofs.YtogbdjlelkepcaaGreatDoor.keep 1) ((L.take j).map pC ++ [[.val (.int .i64 L[j].k), .val (.int .i64 L[j].op.n), .val (.int .i64 L[j].op.h), .val (.int .u32 L[j].op.i), x, .vec 2 L[j].u.w .none, .val (.int .i64 L[j].u.o), .vec 1 L[j].u.x .none, .val (.int .u32 L[j].u.h), .val (.int .i64 L[j].u.m), .val (.bool L[j].u.hm), .vec 2 L[j].u.n .none, .val (.int .i64 L[j].c), .val (.int .i64 L[j].s), .vec 1 L[j].d .none]]) = (L.take (j + 1)).map pC := fun x hx => by
        rw [hm1, renLL_map, List.map_append, ← renLL_map, hA]
        simp only [List.map_cons, List.map_nil, renL, hx, TV.ren, hm.2.1.1.ren, hm.2.1.2.1.ren, hm.2.1.2.2.ren, hm.2.2.ren, Tok.ren, pC]
      have fin : ∀ (x : TV) (on : Nat) (tl : Tl7), (x.ren (Go.Proofs.YtogbdjlelkepcaaGreatDoor.keep 0) (Go.Proofs.YtogbdjlelkepcaaGreatDoor.keep 1) = if L[j].op.l.length = 0 then plN else .vec 2 L[j].op.l .none) → p2Q L j .normal [.vec 15 ((L.take j).map pC ++ [[.val (.int .i64 L[j].k), .val (.int .i64 L[j].op.n), .val (.int .i64 L[j].op.h), .val (.int .u32 L[j].op.i), x, .vec 2 L[j].u.w .none, .val (.int .i64 L[j].u.o), .vec 1 L[j].u.x .none, .val (.int .u32 L[j].u.h), .val (.int .i64 L[j].u.m), .val (.bool L[j].u.hm), .vec 2 L[j].u.n .none, .val (.int .i64 L[j].c), .val (.int .i64 L[j].s), .vec 1 L[j].d .none]]) (.tail 0 (j + 1)), .vec 15 (L.map MsgS.cells) .none, .val (.int .i64 (L.map MsgS.cells).length), .val (.int .i64 (IntKind.wrap IntKind.i64 (((j : Nat) : Int) + (1 : Int))))] on ((j + 1, 15, true) :: tl) [] 65 := fun x on tl hx => by
        refine ⟨rfl, rfl, hlt, ?_, rfl⟩
        simp only [renL, TV.ren, hnr x hx, hLr, Tok.ren]
        rw [wrapC hlt hn]
        rfl
      by_cases h0 : L[j].op.l.length = 0
      · have h := oturn_mq [.cells L[j].cells, .cells [.val (.int .i64 L[j].k), .val (.int .i64 L[j].op.n), .val (.int .i64 L[j].op.h), .val (.int .u32 L[j].op.i), plN, .vec 2 L[j].u.w .none, .val (.int .i64 L[j].u.o), .vec 1 L[j].u.x .none, .val (.int .u32 L[j].u.h), .val (.int .i64 L[j].u.m), .val (.bool L[j].u.hm), .vec 2 L[j].u.n .none, .val (.int .i64 L[j].c), .val (.int .i64 L[j].s), .vec 1 L[j].d .none]] [] ((L.take j).map pC) [.val (.int .i64 L[j].k), .val (.int .i64 L[j].op.n), .val (.int .i64 L[j].op.h), .val (.int .u32 L[j].op.i), plN, .vec 2 L[j].u.w .none, .val (.int .i64 L[j].u.o), .vec 1 L[j].u.x .none, .val (.int .u32 L[j].u.h), .val (.int .i64 L[j].u.m), .val (.bool L[j].u.hm), .vec 2 L[j].u.n .none, .val (.int .i64 L[j].c), .val (.int .i64 L[j].s), .vec 1 L[j].d .none] (by rw [hjl]; omega)
        rw [hjl] at h
        refine VWx.mono (vx_is mixedB_Tryz bodiesB_Tryz specsOk_none (p2_inner hm hLr hA j j (decide_eq_true h0).symm) (ev_p2A L[j] (L.map MsgS.cells) ((L.take j).map pC) _ j (j + 1) j true [(j + 1, 15, true)] (p2Q L j)) (condT (decide_eq_true (by rw [List.length_map]; omega)) ⟨opure_me rfl rfl (by omega) hat, rfl, ⟨rfl, rfl, rfl, trivial, rfl, rfl, rfl⟩, h, fin plN _ [] (by rw [if_pos h0]; rfl)⟩)) (p2Q_ok L j)
      · have h := oturn_mq [.cells L[j].cells, .cells [.val (.int .i64 L[j].k), .val (.int .i64 L[j].op.n), .val (.int .i64 L[j].op.h), .val (.int .u32 L[j].op.i), .vec 2 L[j].op.l (.tail 1 L[j].op.l.length), .vec 2 L[j].u.w .none, .val (.int .i64 L[j].u.o), .vec 1 L[j].u.x .none, .val (.int .u32 L[j].u.h), .val (.int .i64 L[j].u.m), .val (.bool L[j].u.hm), .vec 2 L[j].u.n .none, .val (.int .i64 L[j].c), .val (.int .i64 L[j].s), .vec 1 L[j].d .none]] [(L[j].op.l.length, 2, true)] ((L.take j).map pC) [.val (.int .i64 L[j].k), .val (.int .i64 L[j].op.n), .val (.int .i64 L[j].op.h), .val (.int .u32 L[j].op.i), .vec 2 L[j].op.l (.tail 1 L[j].op.l.length), .vec 2 L[j].u.w .none, .val (.int .i64 L[j].u.o), .vec 1 L[j].u.x .none, .val (.int .u32 L[j].u.h), .val (.int .i64 L[j].u.m), .val (.bool L[j].u.hm), .vec 2 L[j].u.n .none, .val (.int .i64 L[j].c), .val (.int .i64 L[j].s), .vec 1 L[j].d .none] (by rw [hjl]; omega)
        rw [hjl] at h
        refine VWx.mono (vx_is mixedB_Tryz bodiesB_Tryz specsOk_none (p2_inner hm hLr hA j j (decide_eq_false h0).symm) (ev_p2A L[j] (L.map MsgS.cells) ((L.take j).map pC) _ j (j + 1) j false [(j + 1, 15, true), (L[j].op.l.length, 2, true)] (p2Q L j)) (condT (decide_eq_true (by rw [List.length_map]; omega)) ⟨opure_me rfl rfl (by omega) hat, rfl, ⟨rfl, rfl, rfl, trivial, rfl, rfl, rfl⟩, h, fin (.vec 2 L[j].op.l (.tail 1 L[j].op.l.length)) _ [_] (by rw [if_neg h0]; simp only [TV.ren, CpWf.ren hm.1]; rfl)⟩)) (p2Q_ok L j)
    · have hj2 : j = L.length := by omega
      subst hj2
      refine VWx.mono (vx_is mixedB_Tryz bodiesB_Tryz specsOk_none (p2_inner m0_wf hLr (pCs_ren (l := L.take L.length) (fun m hm => hL m (List.mem_of_mem_take hm))) L.length L.length rfl) (ev_p2A m0 (L.map MsgS.cells) ((L.take L.length).map pC) [] L.length 0 L.length true [] (p2Q L L.length)) (condF (decide_eq_false (by rw [List.length_map]; omega)) ⟨rfl, rfl, rfl, ?_, rfl, by rw [List.length_map]⟩)) (p2Q_ok L L.length)
      show p2Vs (L.map MsgS.cells) ((L.take L.length).map pC) L.length L.length = _
      rw [List.take_length, List.length_map]
  · rintro e vs T ⟨rfl, rfl, rfl⟩
    exact hK
theorem p2_vcx (hL : AllM L) (hn : L.length ≤ 2000000) : VCx Tryz.prog noGl 0 p2F [.vec 15 (L.map MsgS.cells) .none] ⟨[], []⟩ fun y T' => y = .vec 15 (L.map MsgS.cells) .none ∧ T' = ⟨[], []⟩ := by
 refine VCx.toLe (Q := fun T' => T' = ⟨[], []⟩) (VCx.keepQ 0 0 (Nat.le_refl _) (Nat.le_refl _) (vcallF_is mixedB_Tryz bodiesB_Tryz specsOk_none (p2_loop hL hn) (ev_p2 _ (L.map pC) _) ⟨rfl, ⟨rfl, rfl, rfl, ⟨rfl, trivial⟩, rfl, rfl, rfl⟩, ?_, rfl⟩))
 simp only [TV.ren, pCs_ren hL]
 exact TVle.rows 15 pC MsgS.cells _ fun m _ => pC_le m
end
end Go.Proofs.YtogbdjlelkepcaaGreatDoor
namespace Go.Proofs.YtogbdjlelkepcaaGreatDoor
open Go.RowKit

def AlDo (b : Bs) (pas : Int) (L : Bs) (m c s : Int) (d : Bs) : Prop := IsB b ∧ L = (fdL b pas).map MsgS.cells ∧ m = (fdX b pas).2.1.length ∧ c = fdK b pas ∧ s = fdU b pas ∧ d = fdD b pas
def NwDo (o : VO) (pas : Int) : Prop := o = stW pas []
def FdDo (ro p : Nat) (o : VO) (b : Bs) (o2 : VO) (L : Bs) (c s : Int) (d : Bs) : Prop := ∃ (pas : Int) (w : Bs), ro ≤ p ∧ o = stW pas w ∧ IsB (w ++ b) ∧ o2 = stW pas (w ++ b) ∧ L = (fdNw w b pas).map MsgS.cells ∧ c = fdK (w ++ b) pas ∧ s = fdU (w ++ b) pas ∧ d = fdD (w ++ b) pas
def LfDo (ro p : Nat) (o : VO) (m : Int) : Prop := ∃ (pas : Int) (w : Bs), ro ≤ p ∧ IsB w ∧ o = stW pas w ∧ m = (fdX w pas).2.1.length
def FfDo (ro p : Nat) (o : VO) (c s : Int) (d : Bs) : Prop := ∃ (pas : Int) (w : Bs), ro ≤ p ∧ IsB w ∧ o = stW pas w ∧ c = fdK w pas ∧ s = fdU w pas ∧ d = fdD w pas
def CtDo (ro p : Nat) (o : VO) (m : Int) : Prop := ∃ (pas : Int) (w : Bs), ro ≤ p ∧ IsB w ∧ o = stW pas w ∧ m = (fdL w pas).length
def MlWf (l : Bs) : Prop := ∃ L : List MsgS, AllM L ∧ L.length ≤ 2000000 ∧ l = L.map MsgS.cells
def MlEq (l l' : Bs) : Prop := l = l' ∧ MlWf l
def alW (L : Bs) (m c s : Int) (d : Bs) : Spec := fun _ ys T K => match ys with
 | [.vec 1 b _, .val (.int .i64 pas)] => AlDo b pas L m c s d ∧ K (.tup [.vec 15 L .none, .val (.int .i64 m), .agg [.val (.int .i64 c), .val (.int .i64 s), .vec 1 d .none]]) T
 | _ => vbad 84 default ys
def nwW (o : VO) : Spec := fun _ ys T K => match ys with
 | [.val (.int .i64 pas)] => NwDo o pas ∧ K (.ptr T.objs.length 0) { T with objs := T.objs ++ [o] }
 | _ => vbad 84 default ys
def fdW (o2 : VO) (L : Bs) (c s : Int) (d : Bs) : Spec := fun ro ys T K => match ys with
 | [.ptr p 0, .vec 1 b _] => match T.objs[p]? with
  | some o => FdDo ro p o b o2 L c s d ∧ K (.tup [.vec 15 L .none, .agg [.val (.int .i64 c), .val (.int .i64 s), .vec 1 d .none]]) { T with objs := T.objs.set p o2 }
  | none => vbad 85 default ys
 | _ => vbad 84 default ys
def lfW (m : Int) : Spec := fun ro ys T K => match ys with
 | [.ptr p 0] => match T.objs[p]? with
  | some o => LfDo ro p o m ∧ K (.val (.int .i64 m)) T
  | none => vbad 85 default ys
 | _ => vbad 84 default ys
def cnW (m : Int) : Spec := fun ro ys T K => match ys with
 | [.ptr p 0] => match T.objs[p]? with
  | some o => CtDo ro p o m ∧ K (.val (.int .i64 m)) T
  | none => vbad 85 default ys
 | _ => vbad 84 default ys
def feW (c s : Int) (d : Bs) : Spec := fun ro ys T K => match ys with
 | [.ptr p 0] => match T.objs[p]? with
  | some o => FfDo ro p o c s d ∧ K (.agg [.val (.int .i64 c), .val (.int .i64 s), .vec 1 d .none]) T
  | none => vbad 85 default ys
 | _ => vbad 84 default ys
def saW : Spec := fun _ ys T K => match ys with
 | [.vec 15 l _, .vec 15 l' _] => MlEq l l' ∧ K (.val (.bool true)) T
 | _ => vbad 83 default ys
def p2W : Spec := fun _ ys T K => match ys with
 | [.vec 15 l _] => MlWf l ∧ K (.vec 15 l .none) T
 | _ => vbad 83 default ys
abbrev alF := 9
abbrev lv12F := 8
abbrev fpF := 3
def fpK : List Nat := [7, 8, 9, 10, 11, 12, 39, 40, 41]
def fpV (L : Bs) (m : Int) (G : Bs) (g : Nat) (rb cuts : Bs) (j : Int) : List TV := [.vec 15 L .none, .val (.int .i64 m), .ptr 0 0, .ptr 1 0, .vec 15 G (.tail 0 g), .vec 1 rb .none, .vec 1 cuts .none, .val (.int .i64 cuts.length), .val (.int .i64 j)]
def fpT (c s : Int) (d : Bs) (o : VO) (g : Nat) : VT := ⟨[.cells [.val (.int .i64 c), .val (.int .i64 s), .vec 1 d .none], o], [(g, 15, true)]⟩
theorem ev_all (pas m c s : Int) (b L d : Bs) (o o2 : VO) (tok : Tok) (Q : TV → VT → Prop) : vcallF Tryz.prog leastG (specs [(nwF, nwW o), (fdF, fdW o2 L c s d), (lfF, lfW m)]) (tellS [(999998, .dead, none)]) 300 noLp 0 alF [.vec 1 b tok, .val (.int .i64 pas)] zz151 Q =
 (NwDo (o) (pas) ∧
 (FdDo 0 1 (o) (b) (o2) (L) (c) (s) (d) ∧
 (LfDo 0 1 (o2) (m) ∧
 (((@Eq (Option TV) (.some (zz66 c s d)) (.some (zz66 c s d))) ∧
 True ) ∧
 Q (.tup [(zz14 L), (zz0 m), (zz66 c s d)]) ⟨[(zz2 c s d), o2, (zz2 c s d)], []⟩)))) := by kernel_rfl
theorem ev_fpr (m c s j z c2 s2 : Int) (L G G2 rb rb2 cuts p L2 d d2 : Bs) (g g2 : Nat) (o o2 : VO) (Q : Exit → List TV → List VO → Nat → Tl7 → List Nat → Nat → Prop) : vx Tryz.prog leastG (specs [(fdF, fdW o2 L2 c2 s2 d2)]) (tellS [(999998, .dead, none), (43, .elt [.val (.int .u16 z)], none), (57, .vec 1 p .none, none), (63, .vec 15 G2 (.tail 0 g2), some fun T => { T with tails := [(g2, 15, true)] }), (66, .vec 1 rb2 .none, none)]) 300 noLp none 0 (loopAt Tryz.prog fpF 0) (slotsN 104 fpK (fpV L m G g rb cuts j)) (fpT c s d o g) [] (pickS fpK (fun e vs T D m => Q e vs (T.objs.take 2) T.objs.length T.tails D m)) =
 (bif decide (j < (↑(List.length cuts) : Int))
 then (OPure Tryz.prog (fun kk => (bif Nat.beq kk (0 : Nat) then (.some zz65) else .none)) (.indexAddr 23 (.tmp 39) (.tmp 41)) [(39, (zz1 cuts)), (41, (zz0 j))] (.elt [(.val (.int .u16 z))]) ∧
 (bif decide (IntKind.wrap IntKind.i64 z > (↑(List.length rb) : Int))
 then (OPure Tryz.prog (fun kk => (bif Nat.beq kk (0 : Nat) then (.some zz65) else .none)) (.slice 22 (.tmp 55) .none (.some (.tmp 56)) .none) [(55, (zz1 rb)), (56, (zz0 (↑(List.length rb) : Int)))] (zz1 p) ∧
 (FdDo 0 1 (o) (p) (o2) (L2) (c2) (s2) (d2) ∧
 (OTurn Tryz.prog (fun kk => (bif Nat.beq kk (0 : Nat) then (.some zz65) else .none)) 0 (zz3 c s d o2 c2 s2 d2 [((g), (15, true))]) (.call ⟨(.builtin .append), #[(.tmp 61), (.tmp 62)], #[25, 25]⟩) [(61, (zz10 G g)), (62, (zz14 L2))] (zz10 G2 g2) (zz3 c s d o2 c2 s2 d2 [((g2), (15, true))]) ∧
 (OPure Tryz.prog (fun kk => (bif Nat.beq kk (0 : Nat) then (.some zz65) else .none)) (.slice 22 (.tmp 64) (.some (.tmp 65)) .none .none) [(64, (zz1 rb)), (65, (zz0 (↑(List.length rb) : Int)))] (zz1 rb2) ∧
 Q .normal [(zz14 L), (zz0 m), zz19, zz20, (zz10 G2 g2), (zz1 rb2), (zz1 cuts), (zz0 (↑(List.length cuts) : Int)), (zz0 (IntKind.wrap IntKind.i64 (j + (1 : Int))))] [(zz2 c s d), (o2)] 3 [((g2), (15, true))] [] 104))))
 else (OPure Tryz.prog (fun kk => (bif Nat.beq kk (0 : Nat) then (.some zz65) else .none)) (.slice 22 (.tmp 55) .none (.some (.tmp 56)) .none) [(55, (zz1 rb)), (56, (zz0 (IntKind.wrap IntKind.i64 z)))] (zz1 p) ∧
 (FdDo 0 1 (o) (p) (o2) (L2) (c2) (s2) (d2) ∧
 (OTurn Tryz.prog (fun kk => (bif Nat.beq kk (0 : Nat) then (.some zz65) else .none)) 0 (zz3 c s d o2 c2 s2 d2 [((g), (15, true))]) (.call ⟨(.builtin .append), #[(.tmp 61), (.tmp 62)], #[25, 25]⟩) [(61, (zz10 G g)), (62, (zz14 L2))] (zz10 G2 g2) (zz3 c s d o2 c2 s2 d2 [((g2), (15, true))]) ∧
 (OPure Tryz.prog (fun kk => (bif Nat.beq kk (0 : Nat) then (.some zz65) else .none)) (.slice 22 (.tmp 64) (.some (.tmp 65)) .none .none) [(64, (zz1 rb)), (65, (zz0 (IntKind.wrap IntKind.i64 z)))] (zz1 rb2) ∧
 Q .normal [(zz14 L), (zz0 m), zz19, zz20, (zz10 G2 g2), (zz1 rb2), (zz1 cuts), (zz0 (↑(List.length cuts) : Int)), (zz0 (IntKind.wrap IntKind.i64 (j + (1 : Int))))] [(zz2 c s d), (o2)] 3 [((g2), (15, true))] [] 104))))))
 else Q (.exit 0) [(zz14 L), (zz0 m), zz19, zz20, (zz10 G g), (zz1 rb), (zz1 cuts), (zz0 (↑(List.length cuts) : Int)), (zz0 j)] [(zz2 c s d), (o)] 2 [((g), (15, true))] [] 104) := by kernel_rfl
theorem ev_fp (pas m c s c2 s2 m3 n3 : Int) (b cuts L G G2 rb L2 d d2 : Bs) (g g2 : Nat) (o0 o o2 : VO) (H : Prop) (Q : TV → VT → Prop) : vcallF Tryz.prog leastG (specs [(alF, alW L m c s d), (nwF, nwW o0), (fdF, fdW o2 L2 c2 s2 d2), (p2F, p2W), (saF, saW), (ffF, feW c2 s2 d2), (flF, flW), (lfF, lfW m3), (fctF, cnW n3), (lv12F, trueW)]) (tellS [(999998, .dead, none), (76, .vec 15 G2 (.tail 0 g2), some fun T => { T with tails := [(g2, 15, true)] })]) 300 (specsL [(0, loopL 104 fpK [(11, 15)] (fpV L m [] 0 b cuts 0) (fpT c s d o0 0) (fun K => H ∧ K .normal (slotsN 104 fpK (fpV L m G g rb cuts cuts.length)) (fpT c s d o g) []), codeAt Tryz.prog fpF 0)]) 0 fpF [.val (.int .i64 pas), .vec 1 b .none, .vec 1 cuts .none] zz151 Q =
 (bif decide ((↑(List.length b) : Int) > (20000 : Int))
 then Q zz27 zz151
 else (bif decide ((↑(List.length cuts) : Int) > (100 : Int))
 then Q zz27 zz151
 else (AlDo (b) (pas) (L) (m) (c) (s) (d) ∧
 (NwDo (o0) (pas) ∧
 ((codeAt Tryz.prog fpF (0 : Nat) = codeAt Tryz.prog fpF (0 : Nat)) ∧
 (((@Eq (Option Nat) .none .none) ∧
 ((@Eq (Nat) 0 0) ∧
 ((@Eq (List Nat) [] []) ∧
 (((@Eq (Option TV) (.some zz5) (.some zz5)) ∧
 True ) ∧
 ((@Eq (VT) ⟨[(zz2 c s d), o0], [(0, (15, true))]⟩ ⟨[(zz2 c s d), o0], [(0, (15, true))]⟩) ∧
 ((@Eq (Bool) true true) ∧
 (@Eq (List TV) [(zz14 L), (zz0 m), zz19, zz20, (.vec 15 [] (.tail 0 0)), (zz1 b), (zz1 cuts), (zz0 (↑(List.length cuts) : Int)), zz6] [(zz14 L), (zz0 m), zz19, zz20, (.vec 15 [] (.tail 0 0)), (zz1 b), (zz1 cuts), (zz0 (↑(List.length cuts) : Int)), zz6]))))))) ∧
 (H  ∧
 (FdDo 0 1 (o) (rb) (o2) (L2) (c2) (s2) (d2) ∧
 (OTurn Tryz.prog (fun kk => (bif Nat.beq kk (0 : Nat) then (.some zz65) else .none)) 0 (zz3 c s d o2 c2 s2 d2 [((g), (15, true))]) (.call ⟨(.builtin .append), #[(.tmp 74), (.tmp 75)], #[25, 25]⟩) [(74, (zz10 G g)), (75, (zz14 L2))] (zz10 G2 g2) (zz3 c s d o2 c2 s2 d2 [((g2), (15, true))]) ∧
 (MlWf (G2) ∧
 (MlWf (L) ∧
 (MlEq (G2) (L) ∧
 (FfDo 0 1 (o2) (c2) (s2) (d2) ∧
 (((@Eq (Option TV) (.some (zz66 c s d)) (.some (zz66 c s d))) ∧
 True ) ∧
 (FtEq (zz15 c2 s2 d2) (zz15 c s d) ∧
 (LfDo 0 1 (o2) (m3) ∧
 (bif eqRes BinOp.eql (k6 m3 m)
 then (CtDo 0 1 (o2) (n3) ∧
 ((True  ∧
 True ) ∧
 (bif eqRes BinOp.eql (k6 n3 (↑(List.length L) : Int))
 then Q zz27 (zz3 c s d o2 c2 s2 d2 [((g2), (15, true))])
 else Q zz8 (zz3 c s d o2 c2 s2 d2 [((g2), (15, true))]))))
 else Q zz8 (zz3 c s d o2 c2 s2 d2 [((g2), (15, true))])))))))))))))))))) := by kernel_rfl
end Go.Proofs.YtogbdjlelkepcaaGreatDoor
namespace Go.Proofs.YtogbdjlelkepcaaGreatDoor
open Go Go.RowKit

theorem mfmixed : Tryz.prog.follows .mixedOrders = true := by kernel_rfl
theorem mfbodies : bodiesOk Tryz.prog = true := by kernel_rfl
def mfC0 : CutE := ⟨[(.agg [(.val (.int .i64 4)), (.val (.int .i64 0)), (.val (.int .i64 0)), (.val (.int .u32 0)), (.val (.slice none 0 0)), (.val (.slice none 0 0)), (.val (.int .i64 0)), (.val (.slice none 0 0)), (.val (.int .u32 0)), (.val (.int .i64 0)), (.val (.bool false)), (.val (.slice none 0 0)), (.val (.int .i64 0)), (.val (.int .i64 0)), (.val (.slice none 0 0))])], ⟨[], []⟩, (.row 1 0 0 19), ⟨[(.row [(.val (.int .u8 255)), (.val (.int .u8 255)), (.val (.int .u8 255)), (.val (.int .u8 255)), (.val (.int .u8 255)), (.val (.int .u8 255)), (.val (.int .u8 255)), (.val (.int .u8 255)), (.val (.int .u8 255)), (.val (.int .u8 255)), (.val (.int .u8 255)), (.val (.int .u8 255)), (.val (.int .u8 255)), (.val (.int .u8 255)), (.val (.int .u8 255)), (.val (.int .u8 255)), (.val (.int .u8 0)), (.val (.int .u8 19)), (.val (.int .u8 4))])], []⟩⟩
def mfC1 : CutE := ⟨[(.ptr 0 0), (.row 1 1 0 9)], ⟨[(.cells [(.val (.bool true)), (.val (.int .i64 0)), (.val (.slice none 0 0)), (.val (.int .i64 0)), (.val (.int .i64 0)), (.val (.slice none 0 0)), (.val (.int .i64 0))]), (.row [(.val (.int .u8 255)), (.val (.int .u8 255)), (.val (.int .u8 255)), (.val (.int .u8 255)), (.val (.int .u8 255)), (.val (.int .u8 255)), (.val (.int .u8 255)), (.val (.int .u8 255)), (.val (.int .u8 255)), (.val (.int .u8 255)), (.val (.int .u8 255)), (.val (.int .u8 255)), (.val (.int .u8 255)), (.val (.int .u8 255)), (.val (.int .u8 255)), (.val (.int .u8 255)), (.val (.int .u8 0)), (.val (.int .u8 19)), (.val (.int .u8 4))])], []⟩, (.tup [(.val (.slice none 0 0)), (.agg [(.val (.int .i64 0)), (.val (.int .i64 0)), (.val (.slice none 0 0))])]), ⟨[(.cells [(.val (.bool true)), (.val (.int .i64 0)), (.row 1 2 0 9), (.val (.int .i64 0)), (.val (.int .i64 0)), (.val (.slice none 0 0)), (.val (.int .i64 0))]), (.row [(.val (.int .u8 255)), (.val (.int .u8 255)), (.val (.int .u8 255)), (.val (.int .u8 255)), (.val (.int .u8 255)), (.val (.int .u8 255)), (.val (.int .u8 255)), (.val (.int .u8 255)), (.val (.int .u8 255)), (.val (.int .u8 255)), (.val (.int .u8 255)), (.val (.int .u8 255)), (.val (.int .u8 255)), (.val (.int .u8 255)), (.val (.int .u8 255)), (.val (.int .u8 255)), (.val (.int .u8 0)), (.val (.int .u8 19)), (.val (.int .u8 4))]), (.row [(.val (.int .u8 255)), (.val (.int .u8 255)), (.val (.int .u8 255)), (.val (.int .u8 255)), (.val (.int .u8 255)), (.val (.int .u8 255)), (.val (.int .u8 255)), (.val (.int .u8 255)), (.val (.int .u8 255))])], []⟩⟩
def mfC2 : CutE := ⟨[(.row 1 0 0 19), (.val (.int .i64 0))], ⟨[(.row [(.val (.int .u8 255)), (.val (.int .u8 255)), (.val (.int .u8 255)), (.val (.int .u8 255)), (.val (.int .u8 255)), (.val (.int .u8 255)), (.val (.int .u8 255)), (.val (.int .u8 255)), (.val (.int .u8 255)), (.val (.int .u8 255)), (.val (.int .u8 255)), (.val (.int .u8 255)), (.val (.int .u8 255)), (.val (.int .u8 255)), (.val (.int .u8 255)), (.val (.int .u8 255)), (.val (.int .u8 0)), (.val (.int .u8 19)), (.val (.int .u8 4))])], []⟩, (.tup [(.agg [(.val (.int .i64 4)), (.val (.int .i64 0)), (.val (.int .i64 0)), (.val (.int .u32 0)), (.val (.slice none 0 0)), (.val (.slice none 0 0)), (.val (.int .i64 0)), (.val (.slice none 0 0)), (.val (.int .u32 0)), (.val (.int .i64 0)), (.val (.bool false)), (.val (.slice none 0 0)), (.val (.int .i64 0)), (.val (.int .i64 0)), (.val (.slice none 0 0))]), (.agg [(.val (.int .i64 0)), (.val (.int .i64 0)), (.val (.slice none 0 0))])]), ⟨[(.row [(.val (.int .u8 255)), (.val (.int .u8 255)), (.val (.int .u8 255)), (.val (.int .u8 255)), (.val (.int .u8 255)), (.val (.int .u8 255)), (.val (.int .u8 255)), (.val (.int .u8 255)), (.val (.int .u8 255)), (.val (.int .u8 255)), (.val (.int .u8 255)), (.val (.int .u8 255)), (.val (.int .u8 255)), (.val (.int .u8 255)), (.val (.int .u8 255)), (.val (.int .u8 255)), (.val (.int .u8 0)), (.val (.int .u8 19)), (.val (.int .u8 4))])], []⟩⟩
def mfC3 : CutE := ⟨[(.ptr 0 0), (.row 1 2 9 10)], ⟨[(.cells [(.val (.bool true)), (.val (.int .i64 0)), (.row 1 1 0 9), (.val (.int .i64 0)), (.val (.int .i64 0)), (.val (.slice none 0 0)), (.val (.int .i64 0))]), (.row [(.val (.int .u8 255)), (.val (.int .u8 255)), (.val (.int .u8 255)), (.val (.int .u8 255)), (.val (.int .u8 255)), (.val (.int .u8 255)), (.val (.int .u8 255)), (.val (.int .u8 255)), (.val (.int .u8 255))]), (.row [(.val (.int .u8 255)), (.val (.int .u8 255)), (.val (.int .u8 255)), (.val (.int .u8 255)), (.val (.int .u8 255)), (.val (.int .u8 255)), (.val (.int .u8 255)), (.val (.int .u8 255)), (.val (.int .u8 255)), (.val (.int .u8 255)), (.val (.int .u8 255)), (.val (.int .u8 255)), (.val (.int .u8 255)), (.val (.int .u8 255)), (.val (.int .u8 255)), (.val (.int .u8 255)), (.val (.int .u8 0)), (.val (.int .u8 19)), (.val (.int .u8 4))])], []⟩, (.tup [(.row 15 3 0 1), (.agg [(.val (.int .i64 0)), (.val (.int .i64 0)), (.val (.slice none 0 0))])]), ⟨[(.cells [(.val (.bool true)), (.val (.int .i64 0)), (.row 1 4 0 0), (.val (.int .i64 0)), (.val (.int .i64 0)), (.val (.slice none 0 0)), (.val (.int .i64 1))]), (.row [(.val (.int .u8 255)), (.val (.int .u8 255)), (.val (.int .u8 255)), (.val (.int .u8 255)), (.val (.int .u8 255)), (.val (.int .u8 255)), (.val (.int .u8 255)), (.val (.int .u8 255)), (.val (.int .u8 255))]), (.row [(.val (.int .u8 255)), (.val (.int .u8 255)), (.val (.int .u8 255)), (.val (.int .u8 255)), (.val (.int .u8 255)), (.val (.int .u8 255)), (.val (.int .u8 255)), (.val (.int .u8 255)), (.val (.int .u8 255)), (.val (.int .u8 255)), (.val (.int .u8 255)), (.val (.int .u8 255)), (.val (.int .u8 255)), (.val (.int .u8 255)), (.val (.int .u8 255)), (.val (.int .u8 255)), (.val (.int .u8 0)), (.val (.int .u8 19)), (.val (.int .u8 4))]), (.row [(.val (.int .i64 4)), (.val (.int .i64 0)), (.val (.int .i64 0)), (.val (.int .u32 0)), (.val (.slice none 0 0)), (.val (.slice none 0 0)), (.val (.int .i64 0)), (.val (.slice none 0 0)), (.val (.int .u32 0)), (.val (.int .i64 0)), (.val (.bool false)), (.val (.slice none 0 0)), (.val (.int .i64 0)), (.val (.int .i64 0)), (.val (.slice none 0 0))]), (.row [(.val (.int .u8 255)), (.val (.int .u8 255)), (.val (.int .u8 255)), (.val (.int .u8 255)), (.val (.int .u8 255)), (.val (.int .u8 255)), (.val (.int .u8 255)), (.val (.int .u8 255)), (.val (.int .u8 255)), (.val (.int .u8 255)), (.val (.int .u8 255)), (.val (.int .u8 255)), (.val (.int .u8 255)), (.val (.int .u8 255)), (.val (.int .u8 255)), (.val (.int .u8 255)), (.val (.int .u8 0)), (.val (.int .u8 19)), (.val (.int .u8 4))])], []⟩⟩
theorem mfok0 : CutOk Tryz.prog leastG 62 mfC0 := vcut_okX (C := cutsC []) mfmixed mfbodies (cutsC_ok leastG_vals cuts_nil) (by kernel_rfl) (X := True) trivial (by kernel_rfl)
theorem mfok1 : CutOk Tryz.prog leastG 11 mfC1 := vcut_okX (C := cutsC []) mfmixed mfbodies (cutsC_ok leastG_vals cuts_nil) (by kernel_rfl) (X := True) trivial (by kernel_rfl)
theorem mfok2 : CutOk Tryz.prog leastG 28 mfC2 := vcut_okX (C := cutsC []) mfmixed mfbodies (cutsC_ok leastG_vals cuts_nil) (by kernel_rfl) (X := True) trivial (by kernel_rfl)
theorem mfok3 : CutOk Tryz.prog leastG 11 mfC3 := vcut_okX (C := cutsC [(28, mfC2)]) mfmixed mfbodies (cutsC_ok leastG_vals (cuts_cons mfok2 cuts_nil)) (by kernel_rfl) (X := True) trivial (by kernel_rfl)
theorem mflives : VCx Tryz.prog leastG 0 8 [] ⟨[], []⟩ isTrueV := vtrueC_vcx (C := cutsC [(11, mfC3), (11, mfC1), (62, mfC0)]) mfmixed mfbodies (cutsC_ok leastG_vals (cuts_cons mfok3 (cuts_cons mfok1 (cuts_cons mfok0 cuts_nil)))) (X := True) (by kernel_rfl) trivial
end Go.Proofs.YtogbdjlelkepcaaGreatDoor
namespace Go.Proofs.YtogbdjlelkepcaaGreatDoor
open Go.RowKit

theorem stW_le0 (pas : Int) : TVleL [.val (.bool true), .val (.int .i64 pas), .val (.slice none 0 0), .val (.int .i64 0), .val (.int .i64 0), .val (.slice none 0 0), .val (.int .i64 0)] (stL pas []) :=
 ⟨.refl _, .refl _, .nil 1, .refl _, .refl _, .nil 1, .refl _, trivial⟩
theorem nw_vcx (pas : Int) : VCx Tryz.prog noGl 0 nwF [.val (.int .i64 pas)] ⟨[], []⟩ fun x T' => x = .ptr 0 0 ∧ T' = ⟨[stW pas []], []⟩ := by
 refine VCx.cellsLe 0 (vcallF_is mixedB_Tryz bodiesB_Tryz specsOk_none lsOk_none (ev_new pas _) ⟨_, stL pas [], rfl, stW_le0 pas, rfl, rfl⟩)
theorem nwW_ok (o : VO) : ∀ ro ys T K, nwW o ro ys T K → VCx Tryz.prog leastG ro nwF ys T K := by
 intro ro ys T K hw
 unfold nwW at hw
 split at hw
 ·rename_i pas
  obtain ⟨rfl, hk⟩ := hw
  refine VCx.anyG ((VCx.lift (T := T) [] [] gvals_noGl List.nodup_nil List.nodup_nil (by simp) (by simp) (by simp) rfl (by rw [VT.give_nil]; exact nw_vcx pas) (fun _ _ _ => ⟨Nat.zero_le _, Nat.zero_le _⟩)).mono ?_)
  rintro z T' ⟨x, T'', ⟨rfl, rfl⟩, rfl, rfl⟩
  rw [VT.back_nil]
  simp only [List.map_cons, List.map_nil, stW_ren .nil, List.append_nil]
  simpa [TV.ren, nameOut] using hk
 ·exact hw.elim
theorem fdW_ok (o2 : VO) (L : Bs) (c s : Int) (d : Bs) : ∀ ro ys T K, fdW o2 L c s d ro ys T K → VCx Tryz.prog leastG ro fdF ys T K := by
 intro ro ys T K hw
 unfold fdW at hw
 split at hw
 ·rename_i p b tok
  split at hw
  ·rename_i o ho
   obtain ⟨⟨pas, w, hro, rfl, hw2, rfl, rfl, rfl, rfl, rfl⟩, hk⟩ := hw
   have hw1 := isB_left hw2
   refine VCx.at1 (Q := fun x o' l' => x = fdV w b pas ∧ o' = stW pas (w ++ b) ∧ l' = []) leastG_vals hro ho rfl (stW_ren hw1 _ _) (ys1 := [.ptr 0 0, .vec 1 b (tok.ren (nameIn [p]) (nameIn []))]) ?_ ((fd_vcx hw2 _).mono fun x T' ⟨h1, h2⟩ => ⟨_, _, h2, h1, rfl, rfl⟩) ?_
   ·simp [renL, TV.ren, nameIn, (isB_right hw2).ren]
   ·rintro x o' l' ⟨rfl, rfl, rfl⟩
    rw [fdV_ren hw2, stW_ren hw2]
    simp only [List.map_nil, List.append_nil]
    exact hk
  ·exact hw.elim
 ·exact hw.elim
section
variable {w : Bs} {pas : Int}
theorem lf_vcx : VCx Tryz.prog noGl 0 lfF [.ptr 0 0] ⟨[stW pas w], []⟩ fun x T' => x = .val (.int .i64 (fdX w pas).2.1.length) ∧ T' = ⟨[stW pas w], []⟩ :=
 vcallF_is mixedB_Tryz bodiesB_Tryz specsOk_none lsOk_none (ev_left pas _ _ _ .dead _ _ _) ⟨rfl, rfl⟩
theorem cnt_vcx : VCx Tryz.prog noGl 0 fctF [.ptr 0 0] ⟨[stW pas w], []⟩ fun x T' => x = .val (.int .i64 (fdL w pas).length) ∧ T' = ⟨[stW pas w], []⟩ :=
 vcallF_is mixedB_Tryz bodiesB_Tryz specsOk_none lsOk_none (ev_count pas _ _ _ _ _ _) ⟨rfl, rfl⟩
theorem fe_vcx (hw : IsB w) : VCx Tryz.prog noGl 0 ffF [.ptr 0 0] ⟨[stW pas w], []⟩ fun x T' => x = fdT w pas ∧ T' = ⟨[stW pas w], []⟩ := by
 refine VCx.keepQ 1 0 (Nat.le_refl _) (Nat.le_refl _) (vcallF_is mixedB_Tryz bodiesB_Tryz (specs_ok fun p hp => by obtain rfl := List.mem_singleton.1 hp; exact cloneW_ok) lsOk_none (ev_ff pas _ _ _ _ _ _) ⟨fdD_is hw, fdT_ren hw _ _, ?_⟩)
 have := stW_ren (pas := pas) hw (Go.Proofs.YtogbdjlelkepcaaGreatDoor.keep 1) (Go.Proofs.YtogbdjlelkepcaaGreatDoor.keep 0)
 show (⟨[(stW pas w).ren _ _], _⟩ : VT) = _
 rw [this]; rfl
end
theorem at1W {f : FuncId} {ro p : Nat} {o : VO} {y : TV} {T : VT} {K : TV → VT → Prop} (hro : ro ≤ p) (ho : T.objs[p]? = some o) (hl : o.live = true) (hr : ∀ f g, o.ren f g = o) (hy : ∀ f g, y.ren f g = y) (h : VCx Tryz.prog noGl 0 f [.ptr 0 0] ⟨[o], []⟩ fun x T' => x = y ∧ T' = ⟨[o], []⟩) (hk : K y T) : VCx Tryz.prog leastG ro f [.ptr p 0] T K := by
 refine VCx.at1 (Q := fun x o' l' => x = y ∧ o' = o ∧ l' = []) leastG_vals hro ho hl (hr _ _) (ys1 := [.ptr 0 0]) (by simp [renL, TV.ren, nameIn]) ((VCx.anyG h).mono fun x T' ⟨h1, h2⟩ => ⟨_, _, h2, h1, rfl, rfl⟩) ?_
 rintro x o' l' ⟨rfl, rfl, rfl⟩
 rw [hy, hr, set_same ho]
 simpa using hk
theorem lfW_ok (m : Int) : ∀ ro ys T K, lfW m ro ys T K → VCx Tryz.prog leastG ro lfF ys T K := by
 intro ro ys T K hw
 unfold lfW at hw
 split at hw
 ·split at hw
  ·rename_i o ho
   obtain ⟨⟨pas, w, hro, hw, rfl, rfl⟩, hk⟩ := hw
   exact at1W hro ho rfl (stW_ren hw) (fun _ _ => rfl) lf_vcx hk
  ·exact hw.elim
 ·exact hw.elim
theorem cnW_ok (m : Int) : ∀ ro ys T K, cnW m ro ys T K → VCx Tryz.prog leastG ro fctF ys T K := by
 intro ro ys T K hw
 unfold cnW at hw
 split at hw
 ·split at hw
  ·rename_i o ho
   obtain ⟨⟨pas, w, hro, hw, rfl, rfl⟩, hk⟩ := hw
   exact at1W hro ho rfl (stW_ren hw) (fun _ _ => rfl) cnt_vcx hk
  ·exact hw.elim
 ·exact hw.elim
theorem feW_ok (c s : Int) (d : Bs) : ∀ ro ys T K, feW c s d ro ys T K → VCx Tryz.prog leastG ro ffF ys T K := by
 intro ro ys T K hw
 unfold feW at hw
 split at hw
 ·split at hw
  ·rename_i o ho
   obtain ⟨⟨pas, w, hro, hw, rfl, rfl, rfl, rfl⟩, hk⟩ := hw
   exact at1W hro ho rfl (stW_ren hw) (fdT_ren hw) (fe_vcx hw) hk
  ·exact hw.elim
 ·exact hw.elim
theorem al_vcx {b : Bs} (hb : IsB b) (pas : Int) (tok : Tok) : VCx Tryz.prog leastG 0 alF [.vec 1 b tok, .val (.int .i64 pas)] ⟨[], []⟩ fun x T' => x = .tup [.vec 15 ((fdL b pas).map MsgS.cells) .none, .val (.int .i64 (fdX b pas).2.1.length), fdT b pas] ∧ T' = ⟨[], []⟩ := by
  have hS : SpecsOk Tryz.prog leastG (specs [(nwF, nwW (stW pas [])), (fdF, fdW (stW pas b) ((fdL b pas).map MsgS.cells) (fdK b pas) (fdU b pas) (fdD b pas)), (lfF, lfW ((fdX b pas).2.1.length : Nat))]) := specs_ok fun p hp => by
    rcases List.mem_cons.1 hp with rfl | hp; exact nwW_ok _
    rcases List.mem_cons.1 hp with rfl | hp; exact fdW_ok _ _ _ _ _
    obtain rfl := List.mem_singleton.1 hp; exact lfW_ok _
  refine VCx.keepQ 0 0 (Nat.le_refl _) (Nat.le_refl _) (vcallF_is mixedB_Tryz bodiesB_Tryz hS lsOk_none (ev_all pas _ _ _ b _ _ _ _ tok _) ⟨rfl, ⟨pas, [], Nat.zero_le _, rfl, hb, rfl, ?_, rfl, rfl, rfl⟩, ⟨pas, b, Nat.zero_le _, hb, rfl, rfl⟩, ⟨rfl, trivial⟩, ?_, rfl⟩)
  · have : (fdL [] pas).length = 0 := by unfold fdL; rw [fdX_short pas (by simp)]; rfl
    unfold fdNw
    rw [this]; rfl
  · have e := fdT_ren (pas := pas) hb (Go.Proofs.YtogbdjlelkepcaaGreatDoor.keep 0) (Go.Proofs.YtogbdjlelkepcaaGreatDoor.keep 0)
    simp only [TV.ren, renL, renLL_ms (fdX_wf (pas := pas) hb), fdL, (fdD_is hb).ren, Tok.ren]
    rfl
theorem alW_ok (L : Bs) (m c s : Int) (d : Bs) : ∀ ro ys T K, alW L m c s d ro ys T K → VCx Tryz.prog leastG ro alF ys T K := by
 intro ro ys T K hw
 unfold alW at hw
 split at hw
 ·rename_i b tok pas
  obtain ⟨⟨hb, rfl, rfl, rfl, rfl, rfl⟩, hk⟩ := hw
  refine VCx.liftPure leastG_vals (al_vcx hb pas (tok.ren (nameIn []) (nameIn []))) (by simp only [renL, TV.ren, hb.ren]) (fun f g => ?_) hk
  simp only [TV.ren, renL, renLL_ms (fdX_wf (pas := pas) hb), fdL, fdT_ren hb, Tok.ren]
 ·exact hw.elim
theorem saW_ok : ∀ ro ys T K, saW ro ys T K → VCx Tryz.prog leastG ro saF ys T K := by
 intro ro ys T K hw
 unfold saW at hw
 split at hw
 ·obtain ⟨⟨rfl, L, hL, hn, rfl⟩, hk⟩ := hw
  exact VCx.loosePure leastG_vals (VCx.anyG (sa_vcx hL hn)) (by simp [looseTV]) (by simp only [renL, TV.ren, renLL_ms hL, Tok.ren]) (fun _ _ => rfl) hk
 ·exact hw.elim
theorem p2W_ok : ∀ ro ys T K, p2W ro ys T K → VCx Tryz.prog leastG ro p2F ys T K := by
 intro ro ys T K hw
 unfold p2W at hw
 split at hw
 ·obtain ⟨⟨L, hL, hn, rfl⟩, hk⟩ := hw
  exact VCx.loosePure leastG_vals (VCx.anyG (p2_vcx hL hn)) (by simp [looseTV]) (by simp only [renL, TV.ren, renLL_ms hL, Tok.ren]) (fun _ _ => by simp only [TV.ren, renLL_ms hL, Tok.ren]) hk
 ·exact hw.elim
theorem fdL_app {w b : Bs} {pas : Int} : fdL (w ++ b) pas = fdL w pas ++ fdNw w b pas := by
 unfold fdNw fdL
 cases hf : (fdX w pas).2.2 with
 | none => rw [fdX_none hf]; simp
 | some p => rw [fdX_some hf]; simp
theorem fdL_len {w : Bs} {pas : Int} (hw : IsB w) : (fdL w pas).length ≤ w.length := by
 have := (fdX_is pas _ w (Nat.le_refl _) hw).2.1
 unfold fdL; omega
theorem fp_app {G : Globs} (objs : List VO) (A B : List MsgS) (s x : Nat) (hne : Nat.beq s x = false) (h : A.length + B.length ≤ 2000000) : OTurn Tryz.prog G 0 ⟨objs, [(A.length, 15, true)]⟩ (.call ⟨.builtin .append, #[.tmp s, .tmp x], #[25, 25]⟩) [(s, .vec 15 (A.map MsgS.cells) (.tail 0 A.length)), (x, .vec 15 (B.map MsgS.cells) .none)] (.vec 15 ((A ++ B).map MsgS.cells) (.tail 0 (A ++ B).length)) ⟨objs, [((A ++ B).length, 15, true)]⟩ := by
  obtain ⟨inf, z, i1, i2, i3, i4, i5⟩ := meInf_ex
  have h1 := oturn_app (inf := inf) (P := Tryz.prog) (G := G) (ro := 0) (T := ⟨objs, [(A.length, 15, true)]⟩) (T1 := ⟨objs, [(A.length, 15, true)]⟩) (t := 25) (tx := 25) (s := .tmp s) (x := .tmp x) (l := [(s, .vec 15 (A.map MsgS.cells) (.tail 0 A.length)), (x, .vec 15 (B.map MsgS.cells) .none)]) (es := A.map MsgS.cells) (es2 := B.map MsgS.cells) (k := 0) (n := A.length) (bn := true) Tryz.underlying25 i1 i4 (by rw [i2]; exact i5) (by rw [i2]; decide) (by kernel_rfl)
    (by rw [i2]; simp [evOf, evFind, vadopt]) (by rw [i2]; simp [evOf, evFind, hne, srcOf])
    (by have h1 := i3
        have h2 := Nat.mul_le_mul (show (A.map MsgS.cells).length + (B.map MsgS.cells).length ≤ 2000001 by simp only [List.length_map]; omega) h1
        omega)
  rw [i2, List.length_map] at h1
  rw [List.map_append, List.length_append]
  exact h1
def u16T (z : Int) : List TV := [.val (.int .u16 z)]
def stepP (n p : Nat) (z : Int) : Nat := p + min z.toNat (n - p)
def posJ (n : Nat) (zs : List Int) (j : Nat) : Nat := (zs.take j).foldl (stepP n) 0
theorem posJ_succ {n : Nat} {zs : List Int} {j : Nat} (h : j < zs.length) : posJ n zs (j + 1) = stepP n (posJ n zs j) zs[j] := by
 unfold posJ
 rw [List.take_add_one, List.getElem?_eq_getElem h, List.foldl_append]
 rfl
theorem posJ_le (n : Nat) (zs : List Int) : ∀ j, posJ n zs j ≤ n
 | 0 => by unfold posJ; simp
 | j + 1 => by
  have ih := posJ_le n zs j
  by_cases h : j < zs.length
  ·rw [posJ_succ h]; unfold stepP; omega
  ·unfold posJ at ih ⊢
   rw [List.take_of_length_le (by omega)] at ih ⊢
   exact ih
section
variable {b : Bs} {zs : List Int} {pas : Int}
def fpW (b : Bs) (zs : List Int) (j : Nat) : Bs := b.take (posJ b.length zs j)
theorem u16Inf_ex : ∃ inf : TypeInfo, Tryz.prog.info? 32 = some inf ∧ inf.size = 1 := ⟨(Tryz.prog.info? 32).getD default, by kernel_rfl, by kernel_rfl⟩
theorem opure_u16 {G : Globs} {x i : Operand} {l : List (Nat × TV)} {es : Bs} {tok : Tok} {k : IntKind} {z : Int} {cs : List TV} (hx : evOf G l x = .vec 1 es tok) (hz : evOf G l i = .val (.int k z)) (h0 : 0 ≤ z) (he : es[z.toNat]? = some cs) : OPure Tryz.prog G (.indexAddr 23 x i) l (.elt cs) := by
 obtain ⟨inf, i1, i2⟩ := u16Inf_ex
 exact opure_index (inf := inf) Tryz.underlying23 i1 (by rw [i2]; exact hx) hz h0 he
theorem opure_hi8 {G : Globs} {x i : Operand} {l : List (Nat × TV)} {es : Bs} {tok : Tok} {k : IntKind} {z : Int} (hx : evOf G l x = .vec 1 es tok) (hz : evOf G l i = .val (.int k z)) (h0 : 0 ≤ z) (he : z.toNat ≤ es.length) : OPure Tryz.prog G (.slice 22 x none (some i) none) l (.vec 1 (es.take z.toNat) .none) := by
 obtain ⟨inf, i1, i2, _, _⟩ := u8Inf_ex
 have h := opure_hi (P := Tryz.prog) (G := G) (t := 22) (x := x) (i := i) (l := l) (inf := inf) (es := es) (tok := tok) Tryz.underlying22 i1 (by rw [i2]; exact hx) hz h0 he
 rw [i2] at h; exact h
theorem opure_lo8 {G : Globs} {x i : Operand} {l : List (Nat × TV)} {es : Bs} {tok : Tok} {k : IntKind} {z : Int} (hx : evOf G l x = .vec 1 es tok) (hz : evOf G l i = .val (.int k z)) (h0 : 0 ≤ z) (he : z.toNat ≤ es.length) : OPure Tryz.prog G (.slice 22 x (some i) none none) l (.vec 1 (es.drop z.toNat) tok) := by
 obtain ⟨inf, i1, i2, _, _⟩ := u8Inf_ex
 have h := opure_lo (P := Tryz.prog) (G := G) (t := 22) (x := x) (i := i) (l := l) (inf := inf) (es := es) (tok := tok) Tryz.underlying22 i1 (by rw [i2]; exact hx) hz h0 he
 rw [i2] at h; exact h
def fpS (b : Bs) (zs : List Int) (pas : Int) (L : Bs) (m : Int) (j : Nat) : List TV := fpV L m ((fdL (fpW b zs j) pas).map MsgS.cells) (fdL (fpW b zs j) pas).length (b.drop (posJ b.length zs j)) (zs.map u16T) j
def fpTT (b : Bs) (zs : List Int) (pas c s : Int) (d : Bs) (j : Nat) : VT := fpT c s d (stW pas (fpW b zs j)) (fdL (fpW b zs j) pas).length
def fpQ (b : Bs) (zs : List Int) (pas : Int) (L : Bs) (m c s : Int) (d : Bs) (j : Nat) (e : Exit) (vs : List TV) (os : List VO) (on : Nat) (tl : Tl7) (D : List Nat) (n : Nat) : Prop := D = [] ∧ n = 104 ∧ match e with
 | .normal => j < zs.length ∧ vs = fpS b zs pas L m (j + 1) ∧ os = (fpTT b zs pas c s d (j + 1)).objs ∧ tl = (fpTT b zs pas c s d (j + 1)).tails
 | .exit i => i = 0 ∧ j = zs.length ∧ vs = fpS b zs pas L m j ∧ os = (fpTT b zs pas c s d j).objs ∧ on = 2 ∧ tl = (fpTT b zs pas c s d j).tails
 | _ => False
theorem u16_ren (f g : Nat → Option Nat) (l : List Int) : renLL f g (l.map u16T) = l.map u16T := by
 induction l with
 | nil => rfl
 | cons z l ih => rw [List.map_cons, renLL, ih]; rfl
theorem fp_loop (hb : IsB b) (hs : b.length ≤ 20000) (hz : ∀ z ∈ zs, 0 ≤ z ∧ z < 65536) (hl : zs.length ≤ 100) {L : Bs} (hL : ∀ f g, renLL f g L = L) (m c s : Int) {d : Bs} (hd : IsB d) (K : KX) (hK : K .normal (slotsN 104 fpK (fpS b zs pas L m zs.length)) (fpTT b zs pas c s d zs.length) []) :
    VWx Tryz.prog leastG none 0 (codeAt Tryz.prog fpF 0) (slotsN 104 fpK (fpS b zs pas L m 0)) (fpTT b zs pas c s d 0) [] K := by
  have hwj : ∀ j, IsB (fpW b zs j) := fun j => hb.take _
  have hres : ∀ j f, (fpTT b zs pas c s d j).objs.map (VO.ren f (Go.Proofs.YtogbdjlelkepcaaGreatDoor.keep 1)) = (fpTT b zs pas c s d j).objs := fun j f => by
    have e := stW_ren (pas := pas) (hwj j) f (Go.Proofs.YtogbdjlelkepcaaGreatDoor.keep 1)
    show [VO.cells [_, _, .vec 1 (renLL _ _ d) _], (stW pas _).ren f _] = _
    rw [e, hd.ren]; rfl
  have hvs : ∀ j, renL (Go.Proofs.YtogbdjlelkepcaaGreatDoor.keep 2) (Go.Proofs.YtogbdjlelkepcaaGreatDoor.keep 1) (fpS b zs pas L m j) = fpS b zs pas L m j := fun j => by
    simp only [fpS, fpV, renL, TV.ren, hL, renLL_ms (fdX_wf (pas := pas) (hwj j)), fdL, (hb.drop _).ren, u16_ren, Tok.ren]
    rfl
  refine loopK (f := fpF) (id := 0) (by kernel_rfl) 104 fpK (fun j : Nat => zs.length - j) (fpS b zs pas L m) (fpTT b zs pas c s d) (fun j => j ≤ zs.length) 2 1 (fun _ _ => ⟨Nat.le_refl _, Nat.le_refl _⟩) (fun e vs T => e = .normal ∧ vs = fpS b zs pas L m zs.length ∧ T = fpTT b zs pas c s d zs.length) (fun j hj => ?_) 0 (Nat.zero_le _) K (fun e vs T ⟨h1, h2, h3⟩ => by subst h1 h2 h3; exact hK)
  have conv : ∀ e σ T D, pickS fpK (fun e vs T D n => fpQ b zs pas L m c s d j e vs (T.objs.take 2) T.objs.length T.tails D n) e σ T D → pickS fpK (loopQ 104 0 (fun j : Nat => zs.length - j) (fpS b zs pas L m) (fpTT b zs pas c s d) (fun j => j ≤ zs.length) 2 1 j (fun e vs T => e = .normal ∧ vs = fpS b zs pas L m zs.length ∧ T = fpTT b zs pas c s d zs.length)) e σ T D := by
    intro e σ T D h
    obtain ⟨h1, h2, h3⟩ := h
    refine ⟨h1, h2, ?_⟩
    cases e
    case normal =>
      obtain ⟨hlt, a1, a2, a3⟩ := h3
      refine ⟨j + 1, hlt, by show zs.length - (j + 1) < zs.length - j; omega, .inr ⟨?_, ?_⟩⟩
      · show (⟨_, _⟩ : VT) = _
        rw [a2, a3, hres]; rfl
      · rw [a1, hvs]
    case exit i =>
      obtain ⟨rfl, rfl, a1, a2, a3, a4⟩ := h3
      refine ⟨rfl, a1, ?_⟩
      obtain ⟨objs, tails⟩ := T
      simp only at a2 a3 a4
      rw [List.take_of_length_le (by omega)] at a2
      rw [a2, a4]
    all_goals exact h3.elim
  have hp := posJ_le b.length zs j
  by_cases hlt : j < zs.length
  · have hzj := hz _ (List.getElem_mem hlt)
    have hat : (zs.map u16T)[((j : Nat) : Int).toNat]? = some (u16T zs[j]) := by rw [Int.toNat_natCast, List.getElem?_map, List.getElem?_eq_getElem hlt]; rfl
    have hps := posJ_succ (n := b.length) hlt
    have hdl : (b.drop (posJ b.length zs j)).length = b.length - posJ b.length zs j := List.length_drop ..
    have hw1 : fpW b zs (j + 1) = fpW b zs j ++ (b.drop (posJ b.length zs j)).take (min zs[j].toNat (b.length - posJ b.length zs j)) := by
      unfold fpW
      rw [hps, stepP, List.take_add]
    have hd1 : (b.drop (posJ b.length zs j)).drop (min zs[j].toNat (b.length - posJ b.length zs j)) = b.drop (posJ b.length zs (j + 1)) := by
      rw [List.drop_drop, hps, stepP]
    generalize hkk : min zs[j].toNat (b.length - posJ b.length zs j) = k at hw1 hd1
    have hwz : IntKind.wrap IntKind.i64 zs[j] = zs[j] := wrap_id (by omega) (by omega)
    have hG := fdL_app (w := fpW b zs j) (b := (b.drop (posJ b.length zs j)).take k) (pas := pas)
    rw [← hw1] at hG
    have hlen := fdL_len (pas := pas) (hwj (j + 1))
    have hwl : (fpW b zs (j + 1)).length ≤ b.length := by unfold fpW; rw [List.length_take]; omega
    have hS : SpecsOk Tryz.prog leastG (specs [(fdF, fdW (stW pas (fpW b zs (j + 1))) ((fdNw (fpW b zs j) ((b.drop (posJ b.length zs j)).take k) pas).map MsgS.cells) (fdK (fpW b zs (j + 1)) pas) (fdU (fpW b zs (j + 1)) pas) (fdD (fpW b zs (j + 1)) pas))]) := specs_ok fun p hp => by
      obtain rfl := List.mem_singleton.1 hp; exact fdW_ok _ _ _ _ _
    have hFd : FdDo 0 1 (stW pas (fpW b zs j)) ((b.drop (posJ b.length zs j)).take k) (stW pas (fpW b zs (j + 1))) ((fdNw (fpW b zs j) ((b.drop (posJ b.length zs j)).take k) pas).map MsgS.cells) (fdK (fpW b zs (j + 1)) pas) (fdU (fpW b zs (j + 1)) pas) (fdD (fpW b zs (j + 1)) pas) := by
      refine ⟨pas, fpW b zs j, Nat.zero_le _, rfl, ?_, ?_, rfl, ?_, ?_, ?_⟩
      · rw [← hw1]; exact hwj _
      all_goals rw [← hw1]
    have hap := fun objs => fp_app (G := leastG) objs (fdL (fpW b zs j) pas) (fdNw (fpW b zs j) ((b.drop (posJ b.length zs j)).take k) pas) 61 62 rfl (by have := congrArg List.length hG; rw [List.length_append] at this; omega)
    rw [← hG] at hap
    have fin : fpQ b zs pas L m c s d j .normal (fpV L m ((fdL (fpW b zs (j + 1)) pas).map MsgS.cells) (fdL (fpW b zs (j + 1)) pas).length (b.drop (posJ b.length zs (j + 1))) (zs.map u16T) (IntKind.wrap IntKind.i64 (((j : Nat) : Int) + (1 : Int)))) (fpTT b zs pas c s d (j + 1)).objs 3 (fpTT b zs pas c s d (j + 1)).tails [] 104 := by
      refine ⟨rfl, rfl, hlt, ?_, rfl, rfl⟩
      rw [wrapC hlt (by omega)]; rfl
    refine VWx.mono (vx_is mixedB_Tryz bodiesB_Tryz hS lsOk_none (ev_fpr m c s j zs[j] _ _ L _ ((fdL (fpW b zs (j + 1)) pas).map MsgS.cells) (b.drop (posJ b.length zs j)) (b.drop (posJ b.length zs (j + 1))) (zs.map u16T) ((b.drop (posJ b.length zs j)).take k) _ d _ _ (fdL (fpW b zs (j + 1)) pas).length (stW pas (fpW b zs j)) _ (fpQ b zs pas L m c s d j)) ?_) conv
    refine condT (decide_eq_true (by rw [List.length_map]; omega)) ⟨opure_u16 rfl rfl (by omega) hat, ?_⟩
    rw [hwz]
    refine cond_of (fun c1 => ?_) (fun c1 => ?_)
    · have c1 := of_decide_eq_true c1
      rw [hdl] at c1
      have ek : k = b.length - posJ b.length zs j := by rw [← hkk]; omega
      have e1 := opure_hi8 (G := leastG) (x := .tmp 55) (i := .tmp 56) (l := [(55, .vec 1 (b.drop (posJ b.length zs j)) .none), (56, .val (.int .i64 (((b.drop (posJ b.length zs j)).length : Nat) : Int)))]) (es := b.drop (posJ b.length zs j)) (tok := .none) (k := .i64) (z := (((b.drop (posJ b.length zs j)).length : Nat) : Int)) rfl rfl (by omega) (by omega)
      have e2 := opure_lo8 (G := leastG) (x := .tmp 64) (i := .tmp 65) (l := [(64, .vec 1 (b.drop (posJ b.length zs j)) .none), (65, .val (.int .i64 (((b.drop (posJ b.length zs j)).length : Nat) : Int)))]) (es := b.drop (posJ b.length zs j)) (tok := .none) (k := .i64) (z := (((b.drop (posJ b.length zs j)).length : Nat) : Int)) rfl rfl (by omega) (by omega)
      rw [Int.toNat_natCast, show (b.drop (posJ b.length zs j)).length = k by rw [hdl, ek]] at e1 e2
      rw [hd1] at e2
      rw [show (b.drop (posJ b.length zs j)).length = k by rw [hdl, ek]]
      exact ⟨e1, hFd, hap _, e2, fin⟩
    · have c1 := of_decide_eq_false c1
      rw [hdl] at c1
      have ek : k = zs[j].toNat := by rw [← hkk]; omega
      have e1 := opure_hi8 (G := leastG) (x := .tmp 55) (i := .tmp 56) (l := [(55, .vec 1 (b.drop (posJ b.length zs j)) .none), (56, .val (.int .i64 zs[j]))]) (es := b.drop (posJ b.length zs j)) (tok := .none) (k := .i64) (z := zs[j]) rfl rfl (by omega) (by omega)
      have e2 := opure_lo8 (G := leastG) (x := .tmp 64) (i := .tmp 65) (l := [(64, .vec 1 (b.drop (posJ b.length zs j)) .none), (65, .val (.int .i64 zs[j]))]) (es := b.drop (posJ b.length zs j)) (tok := .none) (k := .i64) (z := zs[j]) rfl rfl (by omega) (by omega)
      rw [← ek] at e1 e2
      rw [hd1] at e2
      exact ⟨e1, hFd, hap _, e2, fin⟩
  · have hj2 : j = zs.length := by omega
    subst hj2
    have hS : SpecsOk Tryz.prog leastG (specs [(fdF, fdW .gone [] 0 0 [])]) := specs_ok fun p hp => by
      obtain rfl := List.mem_singleton.1 hp; exact fdW_ok _ _ _ _ _
    exact VWx.mono (vx_is mixedB_Tryz bodiesB_Tryz hS lsOk_none (ev_fpr m c s zs.length 0 _ _ L _ [] (b.drop (posJ b.length zs zs.length)) [] (zs.map u16T) [] _ d _ _ 0 (stW pas (fpW b zs zs.length)) _ (fpQ b zs pas L m c s d zs.length)) (condF (decide_eq_false (by rw [List.length_map]; omega)) ⟨rfl, rfl, rfl, rfl, rfl, rfl, rfl, rfl⟩)) conv
theorem fp_law (hb : b.length ≤ 20000 → IsB b) (hz : ∀ z ∈ zs, 0 ≤ z ∧ z < 65536) (pas : Int) : VCx Tryz.prog leastG 0 fpF [.val (.int .i64 pas), .vec 1 b .none, .vec 1 (zs.map u16T) .none] ⟨[], []⟩ isTrueV := by
 have hG := fdL_app (w := fpW b zs zs.length) (b := b.drop (posJ b.length zs zs.length)) (pas := pas)
 have hwb : fpW b zs zs.length ++ b.drop (posJ b.length zs zs.length) = b := List.take_append_drop _ _
 have hS : SpecsOk Tryz.prog leastG (specs [(alF, alW ((fdL b pas).map MsgS.cells) ((fdX b pas).2.1.length : Nat) (fdK b pas) (fdU b pas) (fdD b pas)), (nwF, nwW (stW pas [])), (fdF, fdW (stW pas b) ((fdNw (fpW b zs zs.length) (b.drop (posJ b.length zs zs.length)) pas).map MsgS.cells) (fdK b pas) (fdU b pas) (fdD b pas)), (p2F, p2W), (saF, saW), (ffF, feW (fdK b pas) (fdU b pas) (fdD b pas)), (flF, flW), (lfF, lfW ((fdX b pas).2.1.length : Nat)), (fctF, cnW ((fdL b pas).length : Nat)), (lv12F, trueW)]) := specs_ok fun p hp => by
  rcases List.mem_cons.1 hp with rfl | hp; exact alW_ok _ _ _ _ _
  rcases List.mem_cons.1 hp with rfl | hp; exact nwW_ok _
  rcases List.mem_cons.1 hp with rfl | hp; exact fdW_ok _ _ _ _ _
  rcases List.mem_cons.1 hp with rfl | hp; exact p2W_ok
  rcases List.mem_cons.1 hp with rfl | hp; exact saW_ok
  rcases List.mem_cons.1 hp with rfl | hp; exact feW_ok _ _ _
  rcases List.mem_cons.1 hp with rfl | hp; exact flW_ok leastG_vals
  rcases List.mem_cons.1 hp with rfl | hp; exact lfW_ok _
  rcases List.mem_cons.1 hp with rfl | hp; exact cnW_ok _
  obtain rfl := List.mem_singleton.1 hp; exact trueW_ok leastG_vals mflives
 have hS0 : fpW b zs 0 = [] := by unfold fpW posJ; simp
 have hL : LsOk Tryz.prog leastG (specsL [(0, loopL 104 fpK [(11, 15)] (fpV ((fdL b pas).map MsgS.cells) ((fdX b pas).2.1.length : Nat) [] 0 b (zs.map u16T) 0) (fpT (fdK b pas) (fdU b pas) (fdD b pas) (stW pas []) 0) (fun K => (b.length ≤ 20000 ∧ zs.length ≤ 100) ∧ K .normal (slotsN 104 fpK (fpV ((fdL b pas).map MsgS.cells) ((fdX b pas).2.1.length : Nat) ((fdL (fpW b zs zs.length) pas).map MsgS.cells) (fdL (fpW b zs zs.length) pas).length (b.drop (posJ b.length zs zs.length)) (zs.map u16T) (zs.map u16T).length)) (fpT (fdK b pas) (fdU b pas) (fdD b pas) (stW pas (fpW b zs zs.length)) (fdL (fpW b zs zs.length) pas).length) []), codeAt Tryz.prog fpF 0)]) := specsL_ok fun p hp => by
  obtain rfl := List.mem_singleton.1 hp
  refine loopL_ok fun K hK => ?_
  obtain ⟨⟨h1, h2⟩, hK⟩ := hK
  have hb := hb h1
  have e0 : fdL (fpW b zs 0) pas = [] := by rw [hS0]; unfold fdL; rw [fdX_short pas (by simp)]
  have h := fp_loop (pas := pas) hb h1 hz h2 (renLL_ms (l := fdL b pas) (fdX_wf hb)) ((fdX b pas).2.1.length : Nat) (fdK b pas) (fdU b pas) (fdD_is (pas := pas) hb) K (by rw [List.length_map] at hK; exact hK)
  unfold fpS fpTT at h
  rw [e0, hS0, show posJ b.length zs 0 = 0 by unfold posJ; simp, List.drop_zero] at h
  exact h
 refine vcallF_is mixedB_Tryz bodiesB_Tryz hS hL (ev_fp pas _ _ _ _ _ _ _ b (zs.map u16T) _ _ ((fdL b pas).map MsgS.cells) _ _ _ _ _ (fdL b pas).length _ _ _ _ _) ?_
 refine cond_of (fun _ => trivial) (fun c1 => cond_of (fun _ => trivial) (fun c2 => ?_))
 have c1 := of_decide_eq_false c1
 have c2 := of_decide_eq_false c2
 rw [List.length_map] at c2
 have hb := hb (by omega)
 have hwf : AllM (fdL b pas) := fdX_wf hb
 have hlen := fdL_len (pas := pas) hb
 have hml : MlWf ((fdL b pas).map MsgS.cells) := ⟨_, hwf, by omega, rfl⟩
 rw [hwb] at hG
 have hap := fun objs => fp_app (G := leastG) objs (fdL (fpW b zs zs.length) pas) (fdNw (fpW b zs zs.length) (b.drop (posJ b.length zs zs.length)) pas) 74 75 rfl (by have := congrArg List.length hG; rw [List.length_append] at this; omega)
 rw [← hG] at hap
 refine ⟨⟨hb, rfl, rfl, rfl, rfl, rfl⟩, rfl, rfl, ⟨rfl, rfl, rfl, ⟨rfl, trivial⟩, rfl, rfl, rfl⟩, ⟨by omega, by omega⟩, ⟨pas, fpW b zs zs.length, Nat.zero_le _, rfl, by rw [hwb]; exact hb, by rw [hwb], rfl, by rw [hwb], by rw [hwb], by rw [hwb]⟩, hap _, hml, hml, ⟨rfl, hml⟩, ⟨pas, b, Nat.zero_le _, hb, rfl, rfl, rfl, rfl⟩, ⟨rfl, trivial⟩, ⟨rfl, _, _, _, fdD_is hb, rfl⟩, ⟨pas, b, Nat.zero_le _, hb, rfl, rfl⟩, condT (eqSelf _ _) ⟨⟨pas, b, Nat.zero_le _, hb, rfl, rfl⟩, ⟨trivial, trivial⟩, condT ?_ trivial⟩⟩
 rw [List.length_map]; exact eqSelf _ _
end
end Go.Proofs.YtogbdjlelkepcaaGreatDoor
namespace Go.Proofs.YtogbdjlelkepcaaGreatDoor
open Go.ChangeShapes Go.WideShapes Go.ChangeAt Go.RowKit Go.Joins Go.Deep

section
variable {P : Program} {H : Type} {enc : TypeId × Value → H} {w : World} {base : Nat} {spare : Nat → Bool} {held : Bool}
end
end Go.Proofs.YtogbdjlelkepcaaGreatDoor
namespace Go.Proofs.YtogbdjlelkepcaaGreatDoor
open Go.RowKit Go.Deep Go.WideShapes Go.ChangeAt

theorem isB_of {l : List (List TV)} (h : ∀ x ∈ l, ∃ z, x = [.val (.int .u8 z)] ∧ (Lit.int .u8 z).wf = true) (hl : l.length ≤ 1000000) : IsB l := by
 refine ⟨?_, hl⟩
 clear hl
 induction l with
 | nil => exact ⟨[], rfl, fun _ h => by simp at h⟩
 | cons x l ih =>
  obtain ⟨zs, h1, h2⟩ := ih fun y hy => h y (List.mem_cons_of_mem _ hy)
  obtain ⟨z, rfl, hz⟩ := h x List.mem_cons_self
  refine ⟨z :: zs, by simp only [bV, List.map_cons] at h1 ⊢; rw [h1]; rfl, fun y hy => ?_⟩
  rcases List.mem_cons.1 hy with rfl | hy
  ·simp [Lit.wf] at hz
   have e0 : IntKind.u8.min = 0 := by decide
   have e1 : IntKind.u8.max = 255 := by decide
   omega
  ·exact h2 y hy
theorem u16_of {l : List (List TV)} (h : ∀ x ∈ l, ∃ z, x = [.val (.int .u16 z)] ∧ (Lit.int .u16 z).wf = true) : ∃ zs : List Int, l = zs.map u16T ∧ ∀ z ∈ zs, 0 ≤ z ∧ z < 65536 := by
 induction l with
 | nil => exact ⟨[], rfl, fun _ h => by simp at h⟩
 | cons x l ih =>
  obtain ⟨zs, h1, h2⟩ := ih fun y hy => h y (List.mem_cons_of_mem _ hy)
  obtain ⟨z, rfl, hz⟩ := h x List.mem_cons_self
  refine ⟨z :: zs, by rw [List.map_cons, ← h1]; rfl, fun y hy => ?_⟩
  rcases List.mem_cons.1 hy with rfl | hy
  ·simp [Lit.wf] at hz
   have e0 : IntKind.u16.min = 0 := by decide
   have e1 : IntKind.u16.max = 65535 := by decide
   omega
  ·exact h2 y hy
theorem walk_fp (pas : Int) (l : Bs) (hx : ∀ x ∈ l, ∃ z, x = [.val (.int .u8 z)] ∧ (Lit.int .u8 z).wf = true) (q : Bs) (hq : ∀ x ∈ q, ∃ z, x = [.val (.int .u16 z)] ∧ (Lit.int .u16 z).wf = true) (v u : Value) (w : World) (hG : GOk leastG (topG w) w) (hv : VR (topG w) w (.vec 1 l .none) v) (hu : VR (topG w) w (.vec 1 q .none) u) :
  Calls Tryz.prog fpF #[.int .i64 pas, v, u] w fun e w' => e = .returned (.bool true) ∧ Gr w w' := by
 obtain ⟨zs, rfl, hz⟩ := u16_of hq
 exact VCx.topK (us := [.int .i64 pas, v, u]) (fp_law (fun h => isB_of hx (by omega)) hz pas) w hG (VRs.cons (.val _) (VRs.cons hv (VRs.cons hu (VRs.nil _ _))))
theorem tab_of_laidF {W : World} (h : laidMetH Tryz.prog Rows.framePiecesRow.laid W) : Lib.TabIs Tryz.prog W "fairway/message.least" .i64 leastZ := by
 have h' : laidMet Tryz.prog [("fairway/message.least", Lib.tabData .i64 leastZ)] W := h
 exact Lib.tabIs_of_head glob_least (by kernel_rfl) Tryz.underlying112 Tryz.underlying3 (by kernel_rfl) (by kernel_rfl) h'
theorem open_bytesV {H : Type} {enc : TypeId × Value → H} {w : World} {b0 base : Nat} {spare : Nat → Bool} {held : Bool} {v : Value} {d : DataW H} {p : List MemPlace}
  (hv : Value.okWide Tryz.prog w .any b0 22 v) (h : DataW.Trod enc Tryz.prog w base spare held 22 v d p) : ∃ l : List (List TV), VR (topG w) w (.vec 1 l .none) v ∧ ∀ x ∈ l, ∃ z, x = [.val (.int .u8 z)] ∧ (Lit.int .u8 z).wf = true := by
 obtain ⟨fuel, hf⟩ := h
 obtain ⟨qq, n, c, rfl⟩ := okWide_slice Tryz.underlying22 hv
 have okc : Cell.okWide Tryz.prog w .any b0 22 (.slice qq n c) := by
  unfold Value.okWide at hv
  rw [Tryz.underlying22] at hv
  exact hv
 exact vr_ints Tryz.underlying22 Tryz.underlying5 (by kernel_rfl) okc hf
theorem open_u16V {H : Type} {enc : TypeId × Value → H} {w : World} {b0 base : Nat} {spare : Nat → Bool} {held : Bool} {v : Value} {d : DataW H} {p : List MemPlace}
  (hv : Value.okWide Tryz.prog w .any b0 23 v) (h : DataW.Trod enc Tryz.prog w base spare held 23 v d p) : ∃ l : List (List TV), VR (topG w) w (.vec 1 l .none) v ∧ ∀ x ∈ l, ∃ z, x = [.val (.int .u16 z)] ∧ (Lit.int .u16 z).wf = true := by
 obtain ⟨fuel, hf⟩ := h
 obtain ⟨qq, n, c, rfl⟩ := okWide_slice Tryz.underlying23 hv
 have okc : Cell.okWide Tryz.prog w .any b0 23 (.slice qq n c) := by
  unfold Value.okWide at hv
  rw [Tryz.underlying23] at hv
  exact hv
 exact vr_ints Tryz.underlying23 Tryz.underlying32 (by kernel_rfl) okc hf
end Go.Proofs.YtogbdjlelkepcaaGreatDoor
namespace Go.Proofs.YtogbdjlelkepcaaGreatDoor
open Go.ChangeShapes Go.WideShapes Go.ChangeAt Go.RowKit Go.Joins Go.Deep
theorem framePieces_lifted (os : Os) (started : os.Started) (H : Type) (enc : TypeId × Value → H) :
    ReturnsInHanded {} Tryz.checked os 3 .any (fun w args => (Rows.framePiecesSpec.pre enc Tryz.prog Tryz.f3 [] false w args ∧ laidMetH Tryz.prog Rows.framePiecesRow.laid w) ∧ sizedMet enc Tryz.prog Tryz.f3 (OpenSpec.ofChange Rows.framePiecesSpec) false w args)
      (Rows.framePiecesSpec.post enc Tryz.prog Tryz.f3 false true false false) := by
  refine returnsInHanded_of_change_and (C := Tryz.checked) (X := fun w _ => laidMetH Tryz.prog Rows.framePiecesRow.laid w) (fun _ _ _ hh h => h.of_heap hh) own_Tryz started (by kernel_rfl) Tryz.func3
    (ChangeSpec.witness_shaped (enc := enc) (C := Tryz.checked) (os := os) (X := fun w _ => laidMetH Tryz.prog Rows.framePiecesRow.laid w) false (World.laidAll Tryz.prog os Rows.framePiecesRow.laid) #[.int .i64 0, .slice none 0 0, .slice none 0 0] 8 (World.laidAll_os _ _ _)
      (World.shaped_of_ZipB (by kernel_rfl) (by kernel_rfl)) (by kernel_rfl) (by kernel_rfl) (by kernel_rfl)
      (by rw [MakeChecks.laidMetH_plain _ _ _ (by kernel_rfl)]; exact laidMet_laidAll _ (by kernel_rfl) (by kernel_rfl))) ?_
  intro W base args ds gs before hval0 hW _ _ hL _
  have hval : ∀ (j : Nat) t v, Tryz.f3.params[j]? = some t → args[j]? = some v → Value.okWide Tryz.prog W .any base t v := hval0
  have hW' := hW
  obtain ⟨p, q, hA0, hV, rfl, hfz, hnd⟩ := hW
  have hA : DataW.TrodAll enc Tryz.prog W 0 (fun _ => true) true Tryz.f3.params.toList args.toList ds p := hA0
  rw [Tryz.params3] at hA hval
  obtain ⟨v0, vs0, d0, ds0, p0, q0, hargs, rfl, rfl, h0, r0⟩ := trodAll_cons hA
  obtain ⟨v1, vs1, d1, ds1, p1, q1, rfl, rfl, rfl, h1, r1⟩ := trodAll_cons r0
  obtain ⟨v2, vs2, d2, ds2, p2, q2, rfl, rfl, rfl, h2, r2⟩ := trodAll_cons r1
  obtain ⟨rfl, rfl, rfl⟩ := trodAll_nil r2
  obtain rfl : args = #[v0, v1, v2] := by cases args; simp_all
  obtain ⟨rfl, rfl⟩ := trodVars_none hV
  have lt0 : ∀ x ∈ p0, x.block < W.heap.size := by obtain ⟨m, hm⟩ := h0; exact DataW.trod_lt m _ _ _ hm
  have lt1 : ∀ x ∈ p1, x.block < W.heap.size := by obtain ⟨m, hm⟩ := h1; exact DataW.trod_lt m _ _ _ hm
  have lt2 : ∀ x ∈ p2, x.block < W.heap.size := by obtain ⟨m, hm⟩ := h2; exact DataW.trod_lt m _ _ _ hm
  obtain ⟨x0z, rfl, _, _, x0w⟩ := open_int Tryz.underlying3 (hval 0 3 v0 rfl rfl) h0
  obtain ⟨x1, x1v, x1h⟩ := open_bytesV (hval 1 22 v1 rfl rfl) h1
  obtain ⟨x2, x2v, x2h⟩ := open_u16V (hval 2 23 v2 rfl rfl) h2
  clear hA0 hval0
  refine (walk_fp x0z x1 x1h x2 x2h v1 v2 W (gok_least (tab_of_laidF hL)) x1v x2v).mono fun e W' ⟨he, bel⟩ => ?_
  subst he
  exact ⟨_, rfl, _, _, _, [], _, [], hW', trodAll_mk1 (shut_bool Tryz.underlying4 _), (trodAll_cons_mk (Below.trod laid_Tryz (by kernel_rfl) (of_decide_eq_true (by kernel_rfl)) h0 bel lt0) (trodAll_cons_mk (Below.trod laid_Tryz (by kernel_rfl) (of_decide_eq_true (by kernel_rfl)) h1 bel lt1) (trodAll_cons_mk (Below.trod laid_Tryz (by kernel_rfl) (of_decide_eq_true (by kernel_rfl)) h2 bel lt2) trodAll_mk0))), rfl, Below.frame bel _, fun h => by cases h⟩
end Go.Proofs.YtogbdjlelkepcaaGreatDoor
namespace Go.Proofs.YtogbdjlelkepcaaGreatDoor
open Go
theorem framePieces_pinned : Tryz.pinned.checked = Tryz.checked := rfl
theorem framePieces_prog : Tryz.checked.prog = Tryz.prog := rfl
theorem framePieces_pre {H : Type} (enc : TypeId × Value → H) (P : Program) (fn : Func) :
  Rows.framePiecesRow.pre enc P fn (OpenSpec.ofChange Rows.framePiecesSpec) = fun w args => (Rows.framePiecesSpec.pre enc P fn [] false w args ∧ laidMetH P Rows.framePiecesRow.laid w) ∧ sizedMet enc P fn (OpenSpec.ofChange Rows.framePiecesSpec) false w args := rfl
set_option maxHeartbeats 10000000 in
theorem framePieces_facts0 : joinedFacts Tryz.prog 3 Tryz.f3 Rows.framePiecesSpec Rows.framePiecesRow = true := by
 unfold joinedFacts
 repeat' rw [Bool.and_eq_true]
 repeat' apply And.intro
 all_goals (as_aux_lemma => kernel_rfl)
theorem framePieces_facts : joinedFacts Tryz.pinned.checked.prog 3 Tryz.f3 Rows.framePiecesSpec Rows.framePiecesRow = true := by
 rw [framePieces_pinned, framePieces_prog]; exact framePieces_facts0
theorem framePieces_inst : Tryz.f3.isInstance Tryz.pinned.checked.prog Rows.framePiecesRow.origin Rows.framePiecesRow.targs := (of_decide_eq_true (by kernel_rfl))
theorem framePieces_wrap : Tryz.f3.isWrapper Tryz.pinned.checked.prog Rows.framePiecesRow.wrapper Rows.framePiecesRow.mainSum := by unfold Func.isWrapper; first | (rw [if_pos (by decide +kernel)]; kernel_rfl) | (rw [if_neg (by decide +kernel)]; exact ⟨rfl, rfl⟩)
theorem framePieces_name : Tryz.pinned.checked.prog.funcNamed Rows.framePiecesRow.func = some 3 := by kernel_rfl
theorem framePieces_at : Tryz.pinned.checked.prog.funcs[(3 : Nat)]? = some Tryz.f3 := by
 rw [framePieces_pinned, framePieces_prog]; exact Tryz.func3
theorem framePieces_last (os : Os) (started : os.Started) (H : Type) (enc : TypeId × Value → H) :
  ReturnsInHanded Rows.framePiecesRow.assume Tryz.pinned.checked os 3 .any (Rows.framePiecesRow.pre enc Tryz.pinned.checked.prog Tryz.f3 (OpenSpec.ofChange Rows.framePiecesSpec))
   (Rows.framePiecesSpec.post enc Tryz.pinned.checked.prog Tryz.f3 Rows.framePiecesRow.apart Rows.framePiecesRow.fresh Rows.framePiecesRow.handsOn Rows.framePiecesRow.again) := by
 rw [framePieces_pre, framePieces_pinned, framePieces_prog]
 exact framePieces_lifted os started H enc
theorem framePieces_holds : Rows.FramePiecesSaid :=
 OpenClaim.holds_of_wide 3 Tryz.f3 rfl rfl rfl rfl rfl rfl rfl ⟨rfl, rfl, rfl, rfl, rfl⟩ rfl rfl rfl rfl rfl framePieces_name framePieces_at framePieces_facts framePieces_inst framePieces_wrap
  (fun os started H enc _ => framePieces_last os started H enc)
theorem framePieces_wf : Rows.framePiecesRow.wfByText (OpenSpec.ofChange Rows.framePiecesSpec) = true := by kernel_rfl
theorem framePieces_main : Tryz.pinned.checked.prog.mainIs = some (true, ("d86007e5bf9bb8b38bd9514c41c46ca1a94da96a85d6c67eb6aa7af7ccdc133f" : String).toList) := by kernel_rfl
theorem framePieces_goes : false = Rows.framePiecesRow.goesBy Tryz.pinned.checked.prog := by kernel_rfl
theorem framePieces_looks : true = Tryz.pinned.checked.prog.looks [] := by kernel_rfl
theorem framePieces_stand : ([3, 22, 23].all fun u => !Tryz.pinned.checked.prog.wantsStandIn u) = true := by kernel_rfl
theorem framePieces_ps : Tryz.f3.params = #[3, 22, 23] := Tryz.params3
theorem framePiecesCard_holds : Rows.FramePiecesCardSaid :=
 Claim7.holds_tied_plain_at .later [] [.data] true (true, "d86007e5bf9bb8b38bd9514c41c46ca1a94da96a85d6c67eb6aa7af7ccdc133f") true
  framePieces_holds (fun _ h => by cases h) framePieces_wf (fun _ h => by cases h) framePieces_row_tie rfl ⟨rfl, rfl⟩ framePieces_main rfl
  (fun f fn hf hfn => by
   obtain rfl : f = 3 := Option.some.inj (hf.symm.trans framePieces_name)
   obtain rfl : fn = Tryz.f3 := Option.some.inj (hfn.symm.trans framePieces_at)
   refine ⟨framePieces_looks, fun j t ht => ?_⟩
   rw [framePieces_ps] at ht
   have hm : t ∈ [3, 22, 23] := by simpa using Array.mem_of_getElem? ht
   have := List.all_eq_true.1 framePieces_stand t hm
   simpa using this)
  framePieces_goes
#print axioms framePiecesCard_holds
end Go.Proofs.YtogbdjlelkepcaaGreatDoor
